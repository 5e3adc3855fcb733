/- The exact law FnExactPatternOk. -/
import Derived.Test.YtbnpgbkllglcbaaNeed
import Derived.Test.YtbnpgbkllglcbaaTabMark
import Derived.Test.YtbnpgbkllglcbaaTabEqB
namespace Go.Proofs.Ytbnpgbkllglcbaa
open Go.RowKit Go.DC
set_option maxHeartbeats 4000000 in
set_option maxRecDepth 100000 in
theorem FnExactPatternOk_walk (a0 : Option Addr) (c0 : Nat) (T0 : List (List Int)) (a1 : Option Addr) (c1 : Nat) (T1 : List (List Bool)) (a2 : Option Addr) (c2 : Nat) (T2 : List (List Bool)) (N0 : Int) (w : World) (hp0 : IRows w a0 T0) (hm0 : T0.length ≤ 9223372036854775807 ∧ ∀ k (h : k < T0.length), T0[k].length ≤ 9223372036854775807) (hp1 : BRows w a1 T1) (hm1 : T1.length ≤ 9223372036854775807 ∧ ∀ k (h : k < T1.length), T1[k].length ≤ 9223372036854775807) (hp2 : BRows w a2 T2) (hm2 : T2.length ≤ 9223372036854775807 ∧ ∀ k (h : k < T2.length), T2[k].length ≤ 9223372036854775807) (i0 : -9223372036854775808 ≤ N0 ∧ N0 ≤ 9223372036854775807) :
    Calls Try.prog 13 #[.slice a0 T0.length c0, .slice a1 T1.length c1, .slice a2 T2.length c2, .int .i64 N0] w fun e w' => e = .returned (.bool true) ∧ Ext w w' := by
  obtain ⟨hl0, hmm0⟩ := hm0
  have H0 := Lib.hid hp0; clear hp0
  have M0 := Lib.hid hmm0; clear hmm0
  obtain ⟨hl1, hmm1⟩ := hm1
  have H1 := Lib.hid hp1; clear hp1
  have M1 := Lib.hid hmm1; clear hmm1
  obtain ⟨hl2, hmm2⟩ := hm2
  have H2 := Lib.hid hp2; clear hp2
  have M2 := Lib.hid hmm2; clear hmm2
  go_enter Try.func13, Try.ntmps13
  go_wp2_with fail
  refine (szIntSS_any _ _ T0 _ _ H0.out (by omega) (by omega) hl0 M0.out).mono ?_
  rintro e w' ⟨r0, rfl, rfl, hr0, hr0'⟩
  by_cases hn0 : r0 < 0
  · go_wp2_with fail
    go_ret
    exact ⟨rfl, Ext.refl _⟩
  have hs0 := hr0' (by omega)
  clear hr0'
  go_wp2_with fail
  refine (szBoolSS_any _ _ T1 _ _ H1.out (by omega) (by omega) hl1 M1.out).mono ?_
  rintro e w' ⟨r1, rfl, rfl, hr1, hr1'⟩
  by_cases hn1 : r1 < 0
  · go_wp2_with fail
    go_ret
    exact ⟨rfl, Ext.refl _⟩
  have hs1 := hr1' (by omega)
  clear hr1'
  go_wp2_with fail
  refine (szBoolSS_any _ _ T2 _ _ H2.out (by omega) (by omega) hl2 M2.out).mono ?_
  rintro e w' ⟨r2, rfl, rfl, hr2, hr2'⟩
  by_cases hn2 : r2 < 0
  · go_wp2_with fail
    go_ret
    exact ⟨rfl, Ext.refl _⟩
  have hs2 := hr2' (by omega)
  clear hr2'
  have l0 : ∀ k (h : k < T0.length), T0[k].length ≤ 2000000 := fun k h => by have := sizeI_le T0 k h; omega
  have L0 := Lib.hid l0; clear l0
  have l1 : ∀ k (h : k < T1.length), T1[k].length ≤ 2000000 := fun k h => by have := sizeB_le T1 k h; omega
  have L1 := Lib.hid l1; clear l1
  have l2 : ∀ k (h : k < T2.length), T2[k].length ≤ 2000000 := fun k h => by have := sizeB_le T2 k h; omega
  have L2 := Lib.hid l2; clear l2
  go_wp2_with fail
  refine (toIntSS_any _ _ T0 _ (H0.out) (by omega) L0.out).mono ?_
  rintro e w1 ⟨v1, vs1, rfl, o1, e1⟩
  obtain ⟨b1, d1, rfl, _, rw1, _⟩ := o1.rows
  clear o1
  have rw0_s := Lib.hid rw1; clear rw1
  have E1 := e1
  go_wp2_with fail
  refine (toBoolSS_any _ _ T1 _ (H1.out.ext E1) (by omega) L1.out).mono ?_
  rintro e w2 ⟨v2, vs2, rfl, o2, e2⟩
  obtain ⟨b2, d2, rfl, _, rw2, _⟩ := o2.rows
  clear o2
  have q2_0 := Lib.hid ((rw0_s).out.ext e2); clear rw0_s
  have rw0_s := q2_0; clear q2_0
  have rw1_s := Lib.hid rw2; clear rw2
  have E2 := E1.trans e2
  go_wp2_with fail
  refine (toBoolSS_any _ _ T2 _ (H2.out.ext E2) (by omega) L2.out).mono ?_
  rintro e w3 ⟨v3, vs3, rfl, o3, e3⟩
  obtain ⟨b3, d3, rfl, _, rw3, _⟩ := o3.rows
  clear o3
  have q3_0 := Lib.hid ((rw0_s).out.ext e3); clear rw0_s
  have rw0_s := q3_0; clear q3_0
  have q3_1 := Lib.hid ((rw1_s).out.ext e3); clear rw1_s
  have rw1_s := q3_1; clear q3_1
  have rw2_s := Lib.hid rw3; clear rw3
  have E3 := E2.trans e3
  go_wp2_with fail
  refine (sPatternOk_any _ _ _ _ _ _ T0 T1 T2 N0 _ rw0_s.out rw1_s.out rw2_s.out hl0 hl1 hl2 i0).mono ?_
  rintro e w4 ⟨rfl, e4⟩
  have E4 := E3.trans e4
  clear rw0_s rw1_s rw2_s
  go_wp2_with fail
  refine (toIntSS_any _ _ T0 _ (H0.out.ext E4) (by omega) L0.out).mono ?_
  rintro e w5 ⟨v5, vs5, rfl, o5, e5⟩
  obtain ⟨b5, d5, rfl, _, rw5, _⟩ := o5.rows
  clear o5
  have rw0_g := Lib.hid rw5; clear rw5
  have E5 := E4.trans e5
  go_wp2_with fail
  refine (toBoolSS_any _ _ T1 _ (H1.out.ext E5) (by omega) L1.out).mono ?_
  rintro e w6 ⟨v6, vs6, rfl, o6, e6⟩
  obtain ⟨b6, d6, rfl, _, rw6, _⟩ := o6.rows
  clear o6
  have q6_0 := Lib.hid ((rw0_g).out.ext e6); clear rw0_g
  have rw0_g := q6_0; clear q6_0
  have rw1_g := Lib.hid rw6; clear rw6
  have E6 := E5.trans e6
  go_wp2_with fail
  refine (toBoolSS_any _ _ T2 _ (H2.out.ext E6) (by omega) L2.out).mono ?_
  rintro e w7 ⟨v7, vs7, rfl, o7, e7⟩
  obtain ⟨b7, d7, rfl, _, rw7, _⟩ := o7.rows
  clear o7
  have q7_0 := Lib.hid ((rw0_g).out.ext e7); clear rw0_g
  have rw0_g := q7_0; clear q7_0
  have q7_1 := Lib.hid ((rw1_g).out.ext e7); clear rw1_g
  have rw1_g := q7_1; clear q7_1
  have rw2_g := Lib.hid rw7; clear rw7
  have E7 := E6.trans e7
  go_wp2_with fail
  refine (PatternOk_any _ _ _ _ _ _ T0 T1 T2 N0 _ rw0_g.out rw1_g.out rw2_g.out hl0 hl1 hl2 i0).mono ?_
  rintro e w8 ⟨rfl, e8⟩
  have E8 := E7.trans e8
  have x0 := Lib.hid (rw0_g.out.ext e8); clear rw0_g; have rw0_g := x0; clear x0
  have x1 := Lib.hid (rw1_g.out.ext e8); clear rw1_g; have rw1_g := x1; clear x1
  have x2 := Lib.hid (rw2_g.out.ext e8); clear rw2_g; have rw2_g := x2; clear x2
  obtain ⟨u, hu⟩ : ∃ u, (decide (needV T0 T1 T2 N0 = 0)) = u := ⟨_, rfl⟩
  try simp only [hu]
  clear hu
  have hbb : (u != u) = false := by simp
  have hbb2 : (u == u) = true := by simp
  go_wp2_with fail
  refine (toIntSS_any _ _ T0 _ (H0.out.ext E8) (by omega) L0.out).mono ?_
  rintro e w9 ⟨v9, vs9, rfl, o9, e9⟩
  obtain ⟨b9, d9, rfl, _, rw9, _⟩ := o9.rows
  clear o9
  have RC9 := Lib.hid rw9; clear rw9
  have x0 := Lib.hid (rw0_g.out.ext e9); clear rw0_g; have rw0_g := x0; clear x0
  have x1 := Lib.hid (rw1_g.out.ext e9); clear rw1_g; have rw1_g := x1; clear x1
  have x2 := Lib.hid (rw2_g.out.ext e9); clear rw2_g; have rw2_g := x2; clear x2
  have E9 := E8.trans e9
  go_wp2_with fail
  refine (eqIntSS_any _ _ _ _ T0 T0 _ rw0_g.out RC9.out hl0 hl0 (fun r hr => by obtain ⟨k, hk, rfl⟩ := List.getElem_of_mem hr; exact M0.out k hk) (fun r hr => by obtain ⟨k, hk, rfl⟩ := List.getElem_of_mem hr; exact M0.out k hk)).mono ?_
  rintro e w10 ⟨rfl, e10⟩
  rw [decide_eq_true (rfl : T0 = T0)]
  have x1 := Lib.hid (rw1_g.out.ext e10); clear rw1_g; have rw1_g := x1; clear x1
  have x2 := Lib.hid (rw2_g.out.ext e10); clear rw2_g; have rw2_g := x2; clear x2
  have E10 := E9.trans e10
  go_wp2_with fail
  refine (toBoolSS_any _ _ T1 _ (H1.out.ext E10) (by omega) L1.out).mono ?_
  rintro e w11 ⟨v11, vs11, rfl, o11, e11⟩
  obtain ⟨b11, d11, rfl, _, rw11, _⟩ := o11.rows
  clear o11
  have RC11 := Lib.hid rw11; clear rw11
  have x1 := Lib.hid (rw1_g.out.ext e11); clear rw1_g; have rw1_g := x1; clear x1
  have x2 := Lib.hid (rw2_g.out.ext e11); clear rw2_g; have rw2_g := x2; clear x2
  have E11 := E10.trans e11
  go_wp2_with fail
  refine (eqBoolSS_any _ _ _ _ T1 T1 _ rw1_g.out RC11.out hl1 hl1 (fun r hr => by obtain ⟨k, hk, rfl⟩ := List.getElem_of_mem hr; exact M1.out k hk) (fun r hr => by obtain ⟨k, hk, rfl⟩ := List.getElem_of_mem hr; exact M1.out k hk)).mono ?_
  rintro e w12 ⟨rfl, e12⟩
  rw [decide_eq_true (rfl : T1 = T1)]
  have x2 := Lib.hid (rw2_g.out.ext e12); clear rw2_g; have rw2_g := x2; clear x2
  have E12 := E11.trans e12
  go_wp2_with fail
  refine (toBoolSS_any _ _ T2 _ (H2.out.ext E12) (by omega) L2.out).mono ?_
  rintro e w13 ⟨v13, vs13, rfl, o13, e13⟩
  obtain ⟨b13, d13, rfl, _, rw13, _⟩ := o13.rows
  clear o13
  have RC13 := Lib.hid rw13; clear rw13
  have x2 := Lib.hid (rw2_g.out.ext e13); clear rw2_g; have rw2_g := x2; clear x2
  have E13 := E12.trans e13
  go_wp2_with fail
  refine (eqBoolSS_any _ _ _ _ T2 T2 _ rw2_g.out RC13.out hl2 hl2 (fun r hr => by obtain ⟨k, hk, rfl⟩ := List.getElem_of_mem hr; exact M2.out k hk) (fun r hr => by obtain ⟨k, hk, rfl⟩ := List.getElem_of_mem hr; exact M2.out k hk)).mono ?_
  rintro e w14 ⟨rfl, e14⟩
  rw [decide_eq_true (rfl : T2 = T2)]
  have E14 := E13.trans e14
  go_wp2_with fail
  go_ret
  exact ⟨rfl, E14⟩
end Go.Proofs.Ytbnpgbkllglcbaa
