/- The exact law FnExactBoundLow. -/
import Derived.Test.YtelcdjbbcffliaaShift
import Derived.Test.YtelcdjbbcffliaaSPath
import Derived.Test.YtelcdjbbcffliaaTabMark
import Derived.Test.YtelcdjbbcffliaaTabEqB
namespace Go.Proofs.Ytelcdjbbcffliaa
open Go.RowKit Go.DC
set_option maxHeartbeats 4000000 in
set_option maxRecDepth 100000 in
theorem FnExactBoundLow_walk (a0 : Option Addr) (c0 : Nat) (T0 : List (List Int)) (a1 : Option Addr) (c1 : Nat) (T1 : List (List Bool)) (N0 : Int) (N1 : Int) (w : World) (hp0 : IRows w a0 T0) (hm0 : T0.length ≤ 9223372036854775807 ∧ ∀ k (h : k < T0.length), T0[k].length ≤ 9223372036854775807) (hp1 : BRows w a1 T1) (hm1 : T1.length ≤ 9223372036854775807 ∧ ∀ k (h : k < T1.length), T1[k].length ≤ 9223372036854775807) (i0 : -9223372036854775808 ≤ N0 ∧ N0 ≤ 9223372036854775807) (i1 : -9223372036854775808 ≤ N1 ∧ N1 ≤ 9223372036854775807) :
    Calls Try.prog 10 #[.slice a0 T0.length c0, .slice a1 T1.length c1, .int .i64 N0, .int .i64 N1] w fun e w' => e = .returned (.bool true) ∧ Ext w w' := by
  obtain ⟨hl0, hmm0⟩ := hm0
  have H0 := Lib.hid hp0; clear hp0
  have M0 := Lib.hid hmm0; clear hmm0
  obtain ⟨hl1, hmm1⟩ := hm1
  have H1 := Lib.hid hp1; clear hp1
  have M1 := Lib.hid hmm1; clear hmm1
  go_enter Try.func10, Try.ntmps10
  go_wp2_with fail
  refine (szIntSS_any _ _ T0 _ _ H0.out (by omega) (by omega) hl0 M0.out).mono ?_
  rintro e w' ⟨r0, rfl, rfl, hr0, hr0'⟩
  by_cases hn0 : r0 < 0
  · go_wp2_with fail
    go_ret
    exact ⟨rfl, Ext.refl _⟩
  have hs0 := hr0' (by omega)
  clear hr0'
  go_wp2_with fail
  refine (szBoolSS_any _ _ T1 _ _ H1.out (by omega) (by omega) hl1 M1.out).mono ?_
  rintro e w' ⟨r1, rfl, rfl, hr1, hr1'⟩
  by_cases hn1 : r1 < 0
  · go_wp2_with fail
    go_ret
    exact ⟨rfl, Ext.refl _⟩
  have hs1 := hr1' (by omega)
  clear hr1'
  have l0 : ∀ k (h : k < T0.length), T0[k].length ≤ 2000000 := fun k h => by have := sizeI_le T0 k h; omega
  have L0 := Lib.hid l0; clear l0
  have l1 : ∀ k (h : k < T1.length), T1[k].length ≤ 2000000 := fun k h => by have := sizeB_le T1 k h; omega
  have L1 := Lib.hid l1; clear l1
  go_wp2_with fail
  refine (toIntSS_any _ _ T0 _ (H0.out) (by omega) L0.out).mono ?_
  rintro e w1 ⟨v1, vs1, rfl, o1, e1⟩
  obtain ⟨b1, d1, rfl, _, rw1, _⟩ := o1.rows
  clear o1
  have rw0_s := Lib.hid rw1; clear rw1
  have E1 := e1
  go_wp2_with fail
  refine (toBoolSS_any _ _ T1 _ (H1.out.ext E1) (by omega) L1.out).mono ?_
  rintro e w2 ⟨v2, vs2, rfl, o2, e2⟩
  obtain ⟨b2, d2, rfl, _, rw2, _⟩ := o2.rows
  clear o2
  have q2_0 := Lib.hid ((rw0_s).out.ext e2); clear rw0_s
  have rw0_s := q2_0; clear q2_0
  have rw1_s := Lib.hid rw2; clear rw2
  have E2 := E1.trans e2
  go_wp2_with fail
  refine (sBoundLow_any _ _ _ _ T0 T1 N0 N1 _ rw0_s.out rw1_s.out hl0 hl1 i0 i1).mono ?_
  rintro e w3 ⟨rfl, e3⟩
  have E3 := E2.trans e3
  clear rw0_s rw1_s
  go_wp2_with fail
  refine (toIntSS_any _ _ T0 _ (H0.out.ext E3) (by omega) L0.out).mono ?_
  rintro e w4 ⟨v4, vs4, rfl, o4, e4⟩
  obtain ⟨b4, d4, rfl, _, rw4, _⟩ := o4.rows
  clear o4
  have rw0_g := Lib.hid rw4; clear rw4
  have E4 := E3.trans e4
  go_wp2_with fail
  refine (toBoolSS_any _ _ T1 _ (H1.out.ext E4) (by omega) L1.out).mono ?_
  rintro e w5 ⟨v5, vs5, rfl, o5, e5⟩
  obtain ⟨b5, d5, rfl, _, rw5, _⟩ := o5.rows
  clear o5
  have q5_0 := Lib.hid ((rw0_g).out.ext e5); clear rw0_g
  have rw0_g := q5_0; clear q5_0
  have rw1_g := Lib.hid rw5; clear rw5
  have E5 := E4.trans e5
  go_wp2_with fail
  refine (BoundLowX_any _ _ _ _ T0 T1 N0 N1 _ rw0_g.out rw1_g.out hl0 hl1 i0 i1).mono ?_
  rintro e w6 ⟨rfl, e6⟩
  have E6 := E5.trans e6
  have x0 := Lib.hid (rw0_g.out.ext e6); clear rw0_g; have rw0_g := x0; clear x0
  have x1 := Lib.hid (rw1_g.out.ext e6); clear rw1_g; have rw1_g := x1; clear x1
  obtain ⟨u, hu⟩ : ∃ u, (lowV T0 T1 N0 N1) = u := ⟨_, rfl⟩
  try simp only [hu]
  clear hu
  have hbb : (u != u) = false := by simp
  have hbb2 : (u == u) = true := by simp
  go_wp2_with fail
  refine (toIntSS_any _ _ T0 _ (H0.out.ext E6) (by omega) L0.out).mono ?_
  rintro e w7 ⟨v7, vs7, rfl, o7, e7⟩
  obtain ⟨b7, d7, rfl, _, rw7, _⟩ := o7.rows
  clear o7
  have RC7 := Lib.hid rw7; clear rw7
  have x0 := Lib.hid (rw0_g.out.ext e7); clear rw0_g; have rw0_g := x0; clear x0
  have x1 := Lib.hid (rw1_g.out.ext e7); clear rw1_g; have rw1_g := x1; clear x1
  have E7 := E6.trans e7
  go_wp2_with fail
  refine (eqIntSS_any _ _ _ _ T0 T0 _ rw0_g.out RC7.out hl0 hl0 (fun r hr => by obtain ⟨k, hk, rfl⟩ := List.getElem_of_mem hr; exact M0.out k hk) (fun r hr => by obtain ⟨k, hk, rfl⟩ := List.getElem_of_mem hr; exact M0.out k hk)).mono ?_
  rintro e w8 ⟨rfl, e8⟩
  rw [decide_eq_true (rfl : T0 = T0)]
  have x1 := Lib.hid (rw1_g.out.ext e8); clear rw1_g; have rw1_g := x1; clear x1
  have E8 := E7.trans e8
  go_wp2_with fail
  refine (toBoolSS_any _ _ T1 _ (H1.out.ext E8) (by omega) L1.out).mono ?_
  rintro e w9 ⟨v9, vs9, rfl, o9, e9⟩
  obtain ⟨b9, d9, rfl, _, rw9, _⟩ := o9.rows
  clear o9
  have RC9 := Lib.hid rw9; clear rw9
  have x1 := Lib.hid (rw1_g.out.ext e9); clear rw1_g; have rw1_g := x1; clear x1
  have E9 := E8.trans e9
  go_wp2_with fail
  refine (eqBoolSS_any _ _ _ _ T1 T1 _ rw1_g.out RC9.out hl1 hl1 (fun r hr => by obtain ⟨k, hk, rfl⟩ := List.getElem_of_mem hr; exact M1.out k hk) (fun r hr => by obtain ⟨k, hk, rfl⟩ := List.getElem_of_mem hr; exact M1.out k hk)).mono ?_
  rintro e w10 ⟨rfl, e10⟩
  rw [decide_eq_true (rfl : T1 = T1)]
  have E10 := E9.trans e10
  go_wp2_with fail
  go_ret
  exact ⟨rfl, E10⟩
end Go.Proofs.Ytelcdjbbcffliaa
