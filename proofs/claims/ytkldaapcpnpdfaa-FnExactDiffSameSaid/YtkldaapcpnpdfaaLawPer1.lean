/- The walks of the exact laws on persons. -/
import Derived.Test.YtkldaapcpnpdfaaPerExact2
namespace Go.Proofs.Ytkldaapcpnpdfaa
open Go.RowKit Go.DC
set_option maxHeartbeats 1000000 in
theorem FnExactDiffSame_walk (a0 : Option Addr) (c0 : Nat) (ps : List Per) (a1 : Option Addr) (c1 : Nat) (qs : List Per) (w : World) (hp : Pers w a0 ps) (hm0 : ps.length ≤ 9223372036854775807) (hq : Pers w a1 qs) (hm1 : qs.length ≤ 9223372036854775807) :
    Calls Try.prog 4 #[.slice a0 ps.length c0, .slice a1 qs.length c1] w fun e w' => e = .returned (.bool true) ∧ Ext w w' := by
  have HP := Lib.hid hp; clear hp
  have HQ := Lib.hid hq; clear hq
  go_enter Try.func4, Try.ntmps4
  go_wp2_with fail
  refine (szPersonS_any _ _ _ _ _ (by omega) (by omega) hm0).mono ?_
  rintro e w' ⟨rfl, rfl⟩
  by_cases hl : (1048576 : Int) < ps.length
  · rw [if_pos hl]
    go_wp2
    go_ret
    exact ⟨rfl, Ext.refl _⟩
  rw [if_neg hl]
  have hl' : ps.length ≤ 1048576 := by omega
  have hnn : ¬ (1048576 - (ps.length : Int)) < 0 := by omega
  go_wp2_with fail
  refine (szPersonS_any _ _ _ _ _ (by omega) (by omega) hm1).mono ?_
  rintro e w' ⟨rfl, rfl⟩
  by_cases hk : (1048576 - (ps.length : Int)) < qs.length
  · rw [if_pos hk]
    go_wp2
    go_ret
    exact ⟨rfl, Ext.refl _⟩
  rw [if_neg hk]
  have hk' : qs.length ≤ 1048576 := by omega
  have hnn2 : ¬ (1048576 - (ps.length : Int) - qs.length) < 0 := by omega
  go_wp2_with fail
  refine (toPersonS_any _ _ ps _ HP.out hl').mono ?_
  rintro e w1 ⟨rfl, p1, e1⟩
  go_wp2_with fail
  refine (toPersonS_any _ _ qs _ (HQ.out.ext e1) hk').mono ?_
  rintro e w2 ⟨rfl, p2, e2⟩
  have E2 := e1.trans e2
  go_wp2_with fail
  refine (sDiffSame_any _ _ _ _ ps qs _ (p1.ext e2) p2 hm0 hm1).mono ?_
  rintro e w3 ⟨rfl, e3⟩
  have E3 := E2.trans e3
  clear p1 p2 e1 e2 e3 E2
  go_wp2_with fail
  refine (toPersonS_any _ _ ps _ (HP.out.ext E3) hl').mono ?_
  rintro e w4 ⟨rfl, p4, e4⟩
  go_wp2_with fail
  refine (toPersonS_any _ _ qs _ (HQ.out.ext (E3.trans e4)) hk').mono ?_
  rintro e w5 ⟨rfl, p5, e5⟩
  have E5 := (E3.trans e4).trans e5
  go_wp2_with fail
  refine (DiffSame_any _ _ _ _ ps qs _ (p4.ext e5) p5 hm0 hm1).mono ?_
  rintro e w6 ⟨rfl, e6⟩
  have E6 := E5.trans e6
  go_wp2_with fail
  refine (toPersonS_any _ _ ps _ (HP.out.ext E6) hl').mono ?_
  rintro e w7 ⟨rfl, p7, e7⟩
  go_wp2_with fail
  refine (eqPersonS_yes _ _ _ _ ps _ (p4.ext ((e5.trans e6).trans e7)) p7 hl').mono ?_
  rintro e w8 ⟨rfl, e8⟩
  have E8 := (E6.trans e7).trans e8
  go_wp2_with fail
  refine (toPersonS_any _ _ qs _ (HQ.out.ext E8) hk').mono ?_
  rintro e w9 ⟨rfl, p9, e9⟩
  go_wp2_with fail
  refine (eqPersonS_yes _ _ _ _ qs _ (p5.ext (((e6.trans e7).trans e8).trans e9)) p9 hk').mono ?_
  rintro e w10 ⟨rfl, e10⟩
  go_wp2
  go_ret
  exact ⟨rfl, (E8.trans e9).trans e10⟩
set_option maxHeartbeats 1000000 in
theorem FnExactDiffPeople_walk (a0 : Option Addr) (c0 : Nat) (ps : List Per) (a1 : Option Addr) (c1 : Nat) (qs : List Per) (w : World) (hp : Pers w a0 ps) (hm0 : ps.length ≤ 9223372036854775807) (hq : Pers w a1 qs) (hm1 : qs.length ≤ 9223372036854775807) :
    Calls Try.prog 5 #[.slice a0 ps.length c0, .slice a1 qs.length c1] w fun e w' => e = .returned (.bool true) ∧ Ext w w' := by
  have HP := Lib.hid hp; clear hp
  have HQ := Lib.hid hq; clear hq
  go_enter Try.func5, Try.ntmps5
  go_wp2_with fail
  refine (szPersonS_any _ _ _ _ _ (by omega) (by omega) hm0).mono ?_
  rintro e w' ⟨rfl, rfl⟩
  by_cases hl : (1048576 : Int) < ps.length
  · rw [if_pos hl]
    go_wp2
    go_ret
    exact ⟨rfl, Ext.refl _⟩
  rw [if_neg hl]
  have hl' : ps.length ≤ 1048576 := by omega
  have hnn : ¬ (1048576 - (ps.length : Int)) < 0 := by omega
  go_wp2_with fail
  refine (szPersonS_any _ _ _ _ _ (by omega) (by omega) hm1).mono ?_
  rintro e w' ⟨rfl, rfl⟩
  by_cases hk : (1048576 - (ps.length : Int)) < qs.length
  · rw [if_pos hk]
    go_wp2
    go_ret
    exact ⟨rfl, Ext.refl _⟩
  rw [if_neg hk]
  have hk' : qs.length ≤ 1048576 := by omega
  have hnn2 : ¬ (1048576 - (ps.length : Int) - qs.length) < 0 := by omega
  go_wp2_with fail
  refine (toPersonS_any _ _ ps _ HP.out hl').mono ?_
  rintro e w1 ⟨rfl, p1, e1⟩
  go_wp2_with fail
  refine (toPersonS_any _ _ qs _ (HQ.out.ext e1) hk').mono ?_
  rintro e w2 ⟨rfl, p2, e2⟩
  have E2 := e1.trans e2
  go_wp2_with fail
  refine (sDiffPeople_any _ _ _ _ ps qs _ (p1.ext e2) p2 hm0 hm1).mono ?_
  rintro e w3 ⟨rfl, e3⟩
  have E3 := E2.trans e3
  clear p1 p2 e1 e2 e3 E2
  go_wp2_with fail
  refine (toPersonS_any _ _ ps _ (HP.out.ext E3) hl').mono ?_
  rintro e w4 ⟨rfl, p4, e4⟩
  go_wp2_with fail
  refine (toPersonS_any _ _ qs _ (HQ.out.ext (E3.trans e4)) hk').mono ?_
  rintro e w5 ⟨rfl, p5, e5⟩
  have E5 := (E3.trans e4).trans e5
  go_wp2_with fail
  refine (DiffPeople_any _ _ _ _ ps qs _ (p4.ext e5) p5 hm0 hm1).mono ?_
  rintro e w6 ⟨rfl, e6⟩
  have E6 := E5.trans e6
  go_wp2_with fail
  refine (toPersonS_any _ _ ps _ (HP.out.ext E6) hl').mono ?_
  rintro e w7 ⟨rfl, p7, e7⟩
  go_wp2_with fail
  refine (eqPersonS_yes _ _ _ _ ps _ (p4.ext ((e5.trans e6).trans e7)) p7 hl').mono ?_
  rintro e w8 ⟨rfl, e8⟩
  have E8 := (E6.trans e7).trans e8
  go_wp2_with fail
  refine (toPersonS_any _ _ qs _ (HQ.out.ext E8) hk').mono ?_
  rintro e w9 ⟨rfl, p9, e9⟩
  go_wp2_with fail
  refine (eqPersonS_yes _ _ _ _ qs _ (p5.ext (((e6.trans e7).trans e8).trans e9)) p9 hk').mono ?_
  rintro e w10 ⟨rfl, e10⟩
  go_wp2
  go_ret
  exact ⟨rfl, (E8.trans e9).trans e10⟩
end Go.Proofs.Ytkldaapcpnpdfaa
