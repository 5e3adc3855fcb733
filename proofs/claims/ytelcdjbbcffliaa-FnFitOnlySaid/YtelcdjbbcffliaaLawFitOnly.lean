/- The law FnFitOnly. -/
import Derived.Test.YtelcdjbbcffliaaFitImpl
import Derived.Test.YtelcdjbbcffliaaFitSpec
import Derived.Test.YtelcdjbbcffliaaFitDraw
import Derived.Test.YtelcdjbbcffliaaSafeLaw
import Derived.Test.YtelcdjbbcffliaaManyLaw
import Derived.Test.YtelcdjbbcffliaaTabEqI
namespace Go.Proofs.Ytelcdjbbcffliaa
open Go.RowKit Go.DC
set_option maxRecDepth 10000 in
set_option maxHeartbeats 4000000 in
theorem FnFitOnly_walk (a0 : Option Addr) (c0 : Nat) (xs : List Int) (w : World) (hx : Bytes w a0 xs) (hm0 : xs.length ≤ 9223372036854775807) (hl0 : xs.length ≤ c0) :
    Calls Try.prog 14 #[.slice a0 xs.length c0] w fun e w' => e = .returned (.bool true) ∧ Ext w w' := by
  by_cases hX : 1048576 < xs.length
  · have hz : (1048576 : Int) < (xs.length : Int) := by omega
    go_enter Try.func14, Try.ntmps14
    go_wp2_with fail
    go_ret
    exact ⟨rfl, Ext.refl _⟩
  have hz0 : ¬ (1048576 : Int) < (xs.length : Int) := by omega
  have hb0 : decide (1048576 < xs.length) = false := by simpa using hX
  have HX := Lib.hid hx; clear hx
  go_enter Try.func14, Try.ntmps14
  go_wp2_with fail
  refine (DrawFitTables_any _ _ xs _ HX.out hm0 hl0).mono ?_
  rintro e w1 ⟨a, c, A, mb, cm, mk, ax, cx, X, rfl, ra, rb, rx, hA4, hM5, hX4, e1⟩
  have RA0 := Lib.hid ra; have RB0 := Lib.hid rb; have RX0 := Lib.hid rx
  clear ra rb rx
  go_wp2_with fail
  refine (FitTables_any _ _ _ _ _ _ A mk X _ RA0.out RB0.out RX0.out (by omega) (by omega) (by omega)).mono ?_
  rintro e w2 ⟨rfl, e2⟩
  go_wp2_with fail
  refine (sFitTables_any _ _ _ _ _ _ A mk X _ (RA0.out.ext e2) (RB0.out.ext e2) (RX0.out.ext e2) (by omega) (by omega) (by omega)).mono ?_
  rintro e w3 ⟨rfl, e3⟩
  have E3 := (e1.trans e2).trans e3
  cases hv : fitV A mk X
  · clear hv
    go_wp2_with fail
    go_ret
    exact ⟨rfl, E3⟩
  obtain ⟨n, m, f, b, y, rfl, rfl, rfl, hf, hy⟩ := fitV_ex hv
  have RA := Lib.hid (RA0.out.ext (e2.trans e3)); have RB := Lib.hid (RB0.out.ext (e2.trans e3)); have RX := Lib.hid (RX0.out.ext (e2.trans e3))
  simp only [tabOf_length]
  obtain ⟨⟨hn1, hn4⟩, hm1, hm4⟩ : (1 ≤ n ∧ n ≤ 4) ∧ 1 ≤ m ∧ m ≤ 4 := ⟨⟨hf.1.1, hf.1.2.1⟩, hf.1.2.2⟩
  have HF := Lib.hid hf; have HY := Lib.hid hy
  clear hf hy hv RA0 RB0 RX0 e1 e2 e3 hA4 hM5 hX4
  have hcells := fun k l (hk : k < n) (hl : l < m) => HF.out.2 k l hk hl
  obtain ⟨z, hz⟩ : ∃ z, fitF n m f (fun _ _ => false) y = z := ⟨_, rfl⟩
  have hsame : decide (tabOf n m f = tabOf n m y) = z := by
    rw [← hz, Bool.eq_iff_iff, decide_eq_true_eq, fitF_none hcells]
    constructor
    · intro e k l hk hl
      have : get 0 (tabOf n m f) k l = get 0 (tabOf n m y) k l := by rw [e]
      rw [get_tabOf f hk hl, get_tabOf y hk hl] at this
      exact this
    · intro h
      exact tabOf_congr h
  have FIT3 : Hid (∀ (q : Option Addr) (cq : Nat) (wx : World), Ext w3 wx → BRows wx q (tabOf n m fun _ _ => false) → Calls Try.prog 23 #[.slice a n c, .slice q n cq, .slice ax n cx] wx (Ret (.bool z) wx)) := fun q cq wx ex h2 => by
    have h := FitTables_any a q ax c cq cx (tabOf n m f) (tabOf n m fun _ _ => false) (tabOf n m y) wx (RA.out.ext ex) h2 (RX.out.ext ex) (by rw [tabOf_length]; omega) (by rw [tabOf_length]; omega) (by rw [tabOf_length]; omega)
    rw [tabOf_length, tabOf_length, tabOf_length, fitV_tab HF.out, hz] at h
    exact h
  have SAME : Hid (∀ (wx : World), Ext w3 wx → Calls Try.prog 38 #[.slice a n c, .slice ax n cx] wx (Ret (.bool z) wx)) := fun wx ex => by
    have h := sameRows_any a ax c cx (tabOf n m f) (tabOf n m y) wx (RA.out.ext ex) (RX.out.ext ex) (by rw [tabOf_length]; omega) (by rw [tabOf_length]; omega) (fun r hr => by obtain ⟨k, hk, rfl⟩ := List.getElem_of_mem hr; rw [tabOf_rowlen]; omega) (fun r hr => by obtain ⟨k, hk, rfl⟩ := List.getElem_of_mem hr; rw [tabOf_rowlen]; omega)
    rw [tabOf_length, tabOf_length, hsame] at h
    exact h
  have hb := manyN_bd (toldF n m f b) hn4 hm4
  have MANY : Hid (∀ (wx : World), Ext w3 wx → Calls Try.prog 39 #[.slice a n c, .slice mb n cm] wx (AddOut (manyN n m (toldF n m f b)) wx)) := fun wx ex => BoundMany_tab a mb c cm n m f b wx wx (RA.out.ext ex) (RB.out.ext ex) HF.out (Ext.refl _)
  obtain ⟨u, hu⟩ : ∃ u, manyN n m (toldF n m f b) = u := ⟨_, rfl⟩
  rw [hu] at hb MANY
  have hu0 : ¬ u < 0 := by omega
  have hu0b : decide (u < 0) = false := decide_eq_false hu0
  have hzz : (z == z) = true := by simp
  clear hcells hz hsame hb hu
  go_wp2_with fail
  refine (allMask_tab a c n m f false w3 w3 RA.out HF.out (Ext.refl _)).mono ?_
  rintro e w4 ⟨am, cam, rfl, rm, e4⟩
  have RM := Lib.hid rm
  clear rm
  go_wp2_with fail
  refine (FIT3.out am cam w4 e4 RM.out).mono ?_
  rintro e w5 ⟨rfl, e5⟩
  go_wp2_with fail
  refine (SAME.out w5 (e4.trans e5)).mono ?_
  rintro e w6 ⟨rfl, e6⟩
  go_wp2_with fail
  refine (MANY.out w6 ((e4.trans e5).trans e6)).mono ?_
  rintro e w7 ⟨rfl, e7⟩
  go_wp2_with fail
  go_ret
  exact ⟨rfl, (((E3.trans e4).trans e5).trans e6).trans e7⟩
end Go.Proofs.Ytelcdjbbcffliaa
