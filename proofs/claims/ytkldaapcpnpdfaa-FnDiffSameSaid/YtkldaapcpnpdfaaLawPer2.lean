/- The walks of the laws on drawn persons. -/
import Derived.Test.YtkldaapcpnpdfaaPerSrc
namespace Go.Proofs.Ytkldaapcpnpdfaa
open Go.RowKit Go.DC
set_option maxHeartbeats 1000000 in
theorem FnDiffPeopleAll_walk (a0 : Option Addr) (c0 : Nat) (xs : List Int) (a1 : Option Addr) (c1 : Nat) (ys : List Int) (w : World) (hx : Bytes w a0 xs) (hm0 : xs.length ≤ 9223372036854775807) (hl0 : xs.length ≤ c0) (_hy : Bytes w a1 ys) (hm1 : ys.length ≤ 9223372036854775807) (_hl1 : ys.length ≤ c1) :
    Calls Try.prog 3 #[.slice a0 xs.length c0, .slice a1 ys.length c1] w fun e w' => e = .returned (.bool true) ∧ Ext w w' := by
  by_cases hX : 1048576 < xs.length
  · have hz : (1048576 : Int) < (xs.length : Int) := by omega
    go_enter Try.func3, Try.ntmps3
    go_wp2_with fail
    go_ret
    exact ⟨rfl, Ext.refl _⟩
  have hz0 : ¬ (1048576 : Int) < (xs.length : Int) := by omega
  have hb0 : decide (1048576 < xs.length) = false := by simpa using hX
  by_cases hY : 1048576 < ys.length
  · have hz : (1048576 : Int) < (ys.length : Int) := by omega
    go_enter Try.func3, Try.ntmps3
    go_wp2_with fail
    go_ret
    exact ⟨rfl, Ext.refl _⟩
  have hz1 : ¬ (1048576 : Int) < (ys.length : Int) := by omega
  have hb1 : decide (1048576 < ys.length) = false := by simpa using hY
  have HX := Lib.hid hx; clear hx
  go_enter Try.func3, Try.ntmps3
  go_wp2_with fail
  refine (DrawPeopleValid_any _ _ xs _ HX.out hm0 hl0).mono ?_
  rintro e w1 ⟨v, ps, rfl, hl, own, e1⟩
  obtain ⟨a, c, rfl, hc, pers⟩ := own.pers
  have HP := Lib.hid pers; clear pers own
  go_wp2_with fail
  refine (PeopleValid_any _ _ ps _ HP.out (by omega)).mono ?_
  rintro e w2 ⟨rfl, e2⟩
  go_wp2_with fail
  refine (sPeopleValid_any _ _ ps _ (HP.out.ext e2) (by omega)).mono ?_
  rintro e w3 ⟨rfl, e3⟩
  have E3 := (e1.trans e2).trans e3
  cases hok : okPers ps
  · clear hok
    go_wp2_with fail
    go_ret
    exact ⟨rfl, E3⟩
  have HK := Lib.hid hok; clear hok
  have hk1 : ys.length % (ps.length + 1) < ps.length + 1 := Nat.mod_lt _ (by omega)
  obtain ⟨k, hkk⟩ : ∃ k, ys.length % (ps.length + 1) = k := ⟨_, rfl⟩
  have hmod : (ys.length : Int) % ((ps.length : Int) + 1) = (k : Int) := by rw [← hkk, Int.natCast_emod]; rfl
  rw [hkk] at hk1
  clear hkk
  have hkc : (k : Int) ≤ (c : Int) := by omega
  have P3 := HP.out.ext (e2.trans e3)
  have HP3 := Lib.hid P3; clear P3
  have hlt : (ps.take k).length = k := by rw [List.length_take]; omega
  have HT := Lib.hid hlt; clear hlt
  go_wp2_with fail
  refine (DiffPeople_any _ _ _ _ ps ps _ HP3.out HP3.out (by omega) (by omega)).mono ?_
  rintro e w4 ⟨rfl, e4⟩
  rw [diffPeople_self HK.out]
  have P4 := HP3.out.ext e4
  have q1 := DiffPeople_any a a c c ps (ps.take k) w4 P4 (P4.take k) (by omega) (by rw [HT.out]; omega)
  rw [HT.out, diffPeople_take HK.out (by omega)] at q1
  have Q1 := Lib.hid q1; clear q1 P4
  go_wp2_with fail
  refine Q1.out.mono ?_
  rintro e w5 ⟨rfl, e5⟩
  have P5 := HP3.out.ext (e4.trans e5)
  have q2 := DiffPeople_any a a c c (ps.take k) ps w5 (P5.take k) P5 (by rw [HT.out]; omega) (by omega)
  rw [HT.out, diffPeople_part HK.out (by omega)] at q2
  have Q2 := Lib.hid q2; clear q2 P5
  go_wp2_with fail
  refine Q2.out.mono ?_
  rintro e w6 ⟨rfl, e6⟩
  have E6 := ((E3.trans e4).trans e5).trans e6
  by_cases hkl : k = ps.length
  · have hd : decide (k = ps.length) = true := by simpa using hkl
    have hd2 : ((k : Int) == (ps.length : Int)) = true := beq_iff_eq.2 (by omega)
    clear hkl
    rw [hd]
    go_wp2_with fail
    go_ret
    exact ⟨rfl, E6⟩
  · have hd : decide (k = ps.length) = false := by simpa using hkl
    have hd2 : ((k : Int) == (ps.length : Int)) = false := beq_eq_false_iff_ne.2 (by omega)
    rw [hd]
    go_wp2_with fail
    go_ret
    exact ⟨rfl, E6⟩
set_option maxHeartbeats 1000000 in
theorem FnDiffSame_walk (a0 : Option Addr) (c0 : Nat) (xs : List Int) (w : World) (hx : Bytes w a0 xs) (hm0 : xs.length ≤ 9223372036854775807) (hl0 : xs.length ≤ c0) :
    Calls Try.prog 8 #[.slice a0 xs.length c0] w fun e w' => e = .returned (.bool true) ∧ Ext w w' := by
  by_cases hX : 1048576 < xs.length
  · have hz : (1048576 : Int) < (xs.length : Int) := by omega
    go_enter Try.func8, Try.ntmps8
    go_wp2_with fail
    go_ret
    exact ⟨rfl, Ext.refl _⟩
  have hz0 : ¬ (1048576 : Int) < (xs.length : Int) := by omega
  have hb0 : decide (1048576 < xs.length) = false := by simpa using hX
  have HX := Lib.hid hx; clear hx
  go_enter Try.func8, Try.ntmps8
  go_wp2_with fail
  refine (DrawDiffSame_any _ _ xs _ HX.out hm0 hl0).mono ?_
  rintro e w1 ⟨u, v, ps, qs, rfl, hl, hl2, own, own2, e1⟩
  obtain ⟨a, c, rfl, hc, pers⟩ := own.pers
  obtain ⟨b, d, rfl, hd, pers2⟩ := own2.pers
  have HP := Lib.hid pers; clear pers own
  have HQ := Lib.hid pers2; clear pers2 own2
  go_wp2_with fail
  refine (DiffSame_any _ _ _ _ ps qs _ HP.out HQ.out (by omega) (by omega)).mono ?_
  rintro e w2 ⟨rfl, e2⟩
  go_wp2_with fail
  refine (sDiffSame_any _ _ _ _ ps qs _ (HP.out.ext e2) (HQ.out.ext e2) (by omega) (by omega)).mono ?_
  rintro e w3 ⟨rfl, e3⟩
  have E3 := (e1.trans e2).trans e3
  have hbne : (diffSame ps qs != diffSame ps qs) = false := by simp
  have hbeq : (diffSame ps qs == diffSame ps qs) = true := by simp
  by_cases hneg : diffSame ps qs < 0
  · obtain ⟨ds, hds⟩ : ∃ ds, diffSame ps qs = ds := ⟨_, rfl⟩
    rw [hds] at hneg hbne hbeq ⊢
    clear hds
    go_wp2_with fail
    go_ret
    exact ⟨rfl, E3⟩
  obtain ⟨o1, o2⟩ := diffSame_ok (by omega : 0 ≤ diffSame ps qs)
  have hds := diffSame_of o1 o2
  rw [hds] at hneg hbne hbeq ⊢
  have hle1 := common_le ps qs
  have hle2 := common_le_right ps qs
  have P3 := HP.out.ext (e2.trans e3)
  have Q3 := HQ.out.ext (e2.trans e3)
  have q1 := DiffSame_any b a d c qs ps w3 Q3 P3 (by omega) (by omega)
  rw [diffSame_of o2 o1, common_comm qs ps] at q1
  have Q1 := Lib.hid q1; clear q1
  have HP3 := Lib.hid P3; clear P3
  have HQ3 := Lib.hid Q3; clear Q3
  have O1 := Lib.hid o1; have O2 := Lib.hid o2
  have hdp : diffPeople ps qs = (common ps qs == qs.length) := by simp [diffPeople, o1, o2]
  have HD := Lib.hid hdp
  have hss : diffSame ps ps = (ps.length : Int) := by rw [diffSame_of o1 o1, common_self]
  have HS := Lib.hid hss
  clear hds o1 o2 hdp hss
  obtain ⟨m, hm⟩ : ∃ m, common ps qs = m := ⟨_, rfl⟩
  rw [hm] at hneg hbne hbeq hle1 hle2 Q1 HD ⊢
  clear hm
  have hz1 : (m : Int) ≤ (ps.length : Int) := by omega
  have hz2 : (m : Int) ≤ (qs.length : Int) := by omega
  go_wp2_with fail
  refine Q1.out.mono ?_
  rintro e w4 ⟨rfl, e4⟩
  go_wp2_with fail
  refine (DiffPeople_any _ _ _ _ ps qs _ (HP3.out.ext e4) (HQ3.out.ext e4) (by omega) (by omega)).mono ?_
  rintro e w5 ⟨rfl, e5⟩
  rw [HD.out]
  have s1 := DiffSame_any a a c c ps ps w5 (HP3.out.ext (e4.trans e5)) (HP3.out.ext (e4.trans e5)) (by omega) (by omega)
  rw [HS.out] at s1
  have S1 := Lib.hid s1; clear s1
  by_cases hkl : m = qs.length
  · have hd : (m == qs.length) = true := by simpa using hkl
    have hd2 : ((m : Int) == (qs.length : Int)) = true := beq_iff_eq.2 (by omega)
    rw [hd]
    clear hkl hd
    go_wp2_with fail
    refine S1.out.mono ?_
    rintro e w6 ⟨rfl, e6⟩
    go_wp2_with fail
    go_ret
    exact ⟨rfl, ((E3.trans e4).trans e5).trans e6⟩
  · have hd : (m == qs.length) = false := by simpa using hkl
    have hd2 : ((m : Int) == (qs.length : Int)) = false := beq_eq_false_iff_ne.2 (by omega)
    rw [hd]
    clear hkl hd
    go_wp2_with fail
    refine S1.out.mono ?_
    rintro e w6 ⟨rfl, e6⟩
    go_wp2_with fail
    go_ret
    exact ⟨rfl, ((E3.trans e4).trans e5).trans e6⟩
set_option maxHeartbeats 1000000 in
theorem FnDiffPeopleOrder_walk (a0 : Option Addr) (c0 : Nat) (xs : List Int) (a1 : Option Addr) (c1 : Nat) (ys : List Int) (w : World) (hx : Bytes w a0 xs) (hm0 : xs.length ≤ 9223372036854775807) (hl0 : xs.length ≤ c0) (_hy : Bytes w a1 ys) (hm1 : ys.length ≤ 9223372036854775807) (_hl1 : ys.length ≤ c1) :
    Calls Try.prog 6 #[.slice a0 xs.length c0, .slice a1 ys.length c1] w fun e w' => e = .returned (.bool true) ∧ Ext w w' := by
  by_cases hX : 1048576 < xs.length
  · have hz : (1048576 : Int) < (xs.length : Int) := by omega
    go_enter Try.func6, Try.ntmps6
    go_wp2_with fail
    go_ret
    exact ⟨rfl, Ext.refl _⟩
  have hz0 : ¬ (1048576 : Int) < (xs.length : Int) := by omega
  have hb0 : decide (1048576 < xs.length) = false := by simpa using hX
  by_cases hY : 1048576 < ys.length
  · have hz : (1048576 : Int) < (ys.length : Int) := by omega
    go_enter Try.func6, Try.ntmps6
    go_wp2_with fail
    go_ret
    exact ⟨rfl, Ext.refl _⟩
  have hz1 : ¬ (1048576 : Int) < (ys.length : Int) := by omega
  have hb1 : decide (1048576 < ys.length) = false := by simpa using hY
  have HX := Lib.hid hx; clear hx
  go_enter Try.func6, Try.ntmps6
  go_wp2_with fail
  refine (DrawDiffPeople_any _ _ xs _ HX.out hm0 hl0).mono ?_
  rintro e w1 ⟨u, v, ps, qs, rfl, hl, hl2, own, own2, e1⟩
  obtain ⟨a, c, rfl, hc, pers⟩ := own.pers
  obtain ⟨b, d, rfl, hd, pers2⟩ := own2.pers
  have hnP := Lib.hid own.nil
  have hnQ := Lib.hid own2.nil
  have HP := Lib.hid pers; clear pers own
  have HQ := Lib.hid pers2; clear pers2 own2
  go_wp2_with fail
  refine (DiffPeople_any _ _ _ _ ps qs _ HP.out HQ.out (by omega) (by omega)).mono ?_
  rintro e w2 ⟨rfl, e2⟩
  go_wp2_with fail
  refine (sDiffPeople_any _ _ _ _ ps qs _ (HP.out.ext e2) (HQ.out.ext e2) (by omega) (by omega)).mono ?_
  rintro e w3 ⟨rfl, e3⟩
  have E3 := (e1.trans e2).trans e3
  cases hok : diffPeople ps qs
  · clear hok
    go_wp2_with fail
    go_ret
    exact ⟨rfl, E3⟩
  have HK := Lib.hid hok; clear hok
  have hk1 : ys.length % (ps.length + 1) < ps.length + 1 := Nat.mod_lt _ (by omega)
  obtain ⟨k, hkk⟩ : ∃ k, ys.length % (ps.length + 1) = k := ⟨_, rfl⟩
  have hmod : (ys.length : Int) % ((ps.length : Int) + 1) = (k : Int) := by rw [← hkk, Int.natCast_emod]; rfl
  rw [hkk] at hk1
  clear hkk
  have hk2 : ys.length / 7 % (qs.length + 1) < qs.length + 1 := Nat.mod_lt _ (by omega)
  obtain ⟨l, hll⟩ : ∃ l, ys.length / 7 % (qs.length + 1) = l := ⟨_, rfl⟩
  have hmod2 : (ys.length : Int) / 7 % ((qs.length : Int) + 1) = (l : Int) := by rw [← hll, Int.natCast_emod, Int.natCast_ediv]; rfl
  rw [hll] at hk2
  clear hll
  have hkc : (k : Int) ≤ (c : Int) := by omega
  have hlc : (l : Int) ≤ (d : Int) := by omega
  have hkl : (k : Int) ≤ (ps.length : Int) := by omega
  have hll : (l : Int) ≤ (qs.length : Int) := by omega
  have P3 := HP.out.ext (e2.trans e3)
  have HP3 := Lib.hid P3; clear P3
  have Q3 := HQ.out.ext (e2.trans e3)
  have HQ3 := Lib.hid Q3; clear Q3
  clear HP HQ e1 e2 e3
  obtain ⟨aa, hsl, hsrc⟩ := cut_slice HP3.out hnP.out hc (by omega : k ≤ ps.length)
  obtain ⟨bb, hsl2, hsrc2⟩ := cut_slice HQ3.out hnQ.out hd (by omega : l ≤ qs.length)
  have SP := Lib.hid hsrc; clear hsrc
  have SQ := Lib.hid hsrc2; clear hsrc2
  have HSL := Lib.hid hsl; clear hsl
  have HSL2 := Lib.hid hsl2; clear hsl2
  have hw3 : w3.heap.size ≤ (w3.alloc (.cells #[] 36)).drew.heap.size := by simp
  go_upto_region 10 with fail
  rw [hmod, hmod2]
  clear hmod hmod2
  go_cut [11] (fun s wx => OwnP wx w3.heap.size s (ps.drop k ++ ps.take k) ∧ Ext w3 wx)
  case first =>
    have D0 := Lib.hid (SP.out.ext (((Ext.refl w3).alloc (.cells #[] 36)).drew))
    have O0 := Lib.hid ((ownP_made w3).ext ((Ext.refl _).drew))
    have T0 := Lib.hid (src_take HP3.out hnP.out (by omega : k ≤ ps.length))
    have hb1 : ([] : List Per).length + (ps.length - k) ≤ 10000 := by simp; omega
    have hb2 : ([] ++ ps.drop k).length + k ≤ 10000 := by simp; omega
    have hsl := HSL.out
    go_region_law (first
      | (refine step_pers rfl (.tmp 55) (.tmp 58) rfl w3.heap.size _ [] rfl O0.out _ _ _ (ps.drop k) rfl D0.out hb1 hw3 ?_; intro v1 x1 own1 gr1; have X1 : Ext w3 x1 := own_grown (((Ext.refl w3).alloc (.cells #[] 36)).drew) O0.out (Nat.le_refl _) gr1)
      | (refine step_pers rfl (.tmp 59) (.tmp 62) rfl w3.heap.size _ _ rfl own1 _ _ _ (ps.take k) rfl (T0.out.ext X1) hb2 X1.size ?_; intro v2 x2 own2 gr2))
    all_goals
      go_wp2_with fail
      go_meet
      exact ⟨by simpa using own2, own_grown X1 own1 (Nat.le_refl _) gr2⟩
  case rest =>
    obtain ⟨ownx, ex⟩ := hcut
    obtain ⟨rs, hrs⟩ : ∃ rs, ps.drop k ++ ps.take k = rs := ⟨_, rfl⟩
    have hlr : rs.length ≤ 41 := by rw [← hrs]; simp; omega
    rw [hrs] at ownx
    have HRS := Lib.hid hrs; clear hrs
    obtain ⟨ax, cx, rfl, hcx, persx⟩ := ownx.pers
    have HPX := Lib.hid persx; clear persx ownx
    obtain ⟨wd, hwd⟩ : ∃ wd, wd = wc := ⟨_, rfl⟩
    subst hwd
    have hw4 : wd.heap.size ≤ (wd.alloc (.cells #[] 36)).drew.heap.size := by simp
    go_upto_region 11 with fail
    go_cut [12] (fun s wx => OwnP wx wd.heap.size s (qs.drop l ++ qs.take l) ∧ Ext wd wx)
    case first =>
      have D0 := Lib.hid (SQ.out.ext ((ex.alloc (.cells #[] 36)).drew))
      have O0 := Lib.hid ((ownP_made wd).ext ((Ext.refl _).drew))
      have T0 := Lib.hid (src_take (HQ3.out.ext ex) hnQ.out (by omega : l ≤ qs.length))
      have hb1 : ([] : List Per).length + (qs.length - l) ≤ 10000 := by simp; omega
      have hb2 : ([] ++ qs.drop l).length + l ≤ 10000 := by simp; omega
      have hsl := HSL2.out
      go_region_law (first
        | (refine step_pers rfl (.tmp 64) (.tmp 67) rfl wd.heap.size _ [] rfl O0.out _ _ _ (qs.drop l) rfl D0.out hb1 hw4 ?_; intro v1 x1 own1 gr1; have X1 : Ext wd x1 := own_grown (((Ext.refl wd).alloc (.cells #[] 36)).drew) O0.out (Nat.le_refl _) gr1)
        | (refine step_pers rfl (.tmp 68) (.tmp 71) rfl wd.heap.size _ _ rfl own1 _ _ _ (qs.take l) rfl (T0.out.ext X1) hb2 X1.size ?_; intro v2 x2 own2 gr2))
      all_goals
        go_wp2_with fail
        go_meet
        exact ⟨by simpa using own2, own_grown X1 own1 (Nat.le_refl _) gr2⟩
    case rest =>
      obtain ⟨owny, ey⟩ := hcut
      obtain ⟨ss, hss⟩ : ∃ ss, qs.drop l ++ qs.take l = ss := ⟨_, rfl⟩
      have hls : ss.length ≤ 41 := by rw [← hss]; simp; omega
      rw [hss] at owny
      have hrot : diffPeople rs ss = true := by rw [← hss, ← HRS.out]; exact diffPeople_rot HK.out k l
      clear hss
      obtain ⟨ay, cy, rfl, hcy, persy⟩ := owny.pers
      have q1 := DiffPeople_any ax ay cx cy rs ss _ (HPX.out.ext ey) persy (by omega) (by omega)
      rw [hrot] at q1
      have Q1 := Lib.hid q1; clear q1 hrot
      obtain ⟨o1, o2, o3⟩ := diffPeople_ok HK.out
      have q2 : diffSame ps qs = (qs.length : Int) := by rw [diffSame_of o1 o2, o3]
      have Q2 := Lib.hid q2; clear q2 o1 o2 o3 persy owny
      go_wp2_with fail
      refine Q1.out.mono ?_
      rintro e w8 ⟨rfl, e8⟩
      have X8 := (ex.trans ey).trans e8
      go_wp2_with fail
      refine (DiffSame_any _ _ _ _ ps qs _ (HP3.out.ext X8) (HQ3.out.ext X8) (by omega) (by omega)).mono ?_
      rintro e w9 ⟨rfl, e9⟩
      rw [Q2.out]
      go_wp2_with fail
      go_ret
      exact ⟨rfl, (E3.trans X8).trans e9⟩
end Go.Proofs.Ytkldaapcpnpdfaa
