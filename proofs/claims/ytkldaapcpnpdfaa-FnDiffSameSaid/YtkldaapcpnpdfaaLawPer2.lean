/- The walks of the laws on drawn persons. -/
import Derived.Test.YtkldaapcpnpdfaaPerMath
import Derived.Test.YtkldaapcpnpdfaaPerExact
import Derived.Test.YtkldaapcpnpdfaaPerDraw3
namespace Go.Proofs.Ytkldaapcpnpdfaa
open Go.RowKit Go.DC
theorem Pers.take {w : World} {a : Option Addr} {ps : List Per} (h : Pers w a ps) (n : Nat) : Pers w a (ps.take n) := fun k hk => by
  have hk' : k < ps.length := by simp at hk; omega
  obtain ⟨b, off, ha, h0, h1, h2, h3⟩ := h k hk'
  have e : (ps.take n)[k] = ps[k] := List.getElem_take
  rw [e]
  exact ⟨b, off, ha, h0, h1, h2, h3⟩
set_option maxHeartbeats 1000000 in
theorem FnDiffPeopleAll_walk (a0 : Option Addr) (c0 : Nat) (xs : List Int) (a1 : Option Addr) (c1 : Nat) (ys : List Int) (w : World) (hx : Bytes w a0 xs) (hm0 : xs.length ≤ 9223372036854775807) (hl0 : xs.length ≤ c0) (_hy : Bytes w a1 ys) (hm1 : ys.length ≤ 9223372036854775807) (_hl1 : ys.length ≤ c1) :
    Calls Try.prog 3 #[.slice a0 xs.length c0, .slice a1 ys.length c1] w fun e w' => e = .returned (.bool true) ∧ Ext w w' := by
  by_cases hX : 1048576 < xs.length
  · have hz : (1048576 : Int) < (xs.length : Int) := by omega
    go_enter Try.func3, Try.ntmps3
    go_wp2_with fail
    go_ret
    exact ⟨rfl, Ext.refl _⟩
  have hz0 : ¬ (1048576 : Int) < (xs.length : Int) := by omega
  have hb0 : decide (1048576 < xs.length) = false := by simpa using hX
  by_cases hY : 1048576 < ys.length
  · have hz : (1048576 : Int) < (ys.length : Int) := by omega
    go_enter Try.func3, Try.ntmps3
    go_wp2_with fail
    go_ret
    exact ⟨rfl, Ext.refl _⟩
  have hz1 : ¬ (1048576 : Int) < (ys.length : Int) := by omega
  have hb1 : decide (1048576 < ys.length) = false := by simpa using hY
  have HX := Lib.hid hx; clear hx
  go_enter Try.func3, Try.ntmps3
  go_wp2_with fail
  refine (DrawPeopleValid_any _ _ xs _ HX.out hm0 hl0).mono ?_
  rintro e w1 ⟨v, ps, rfl, hl, own, e1⟩
  obtain ⟨a, c, rfl, hc, pers⟩ := own.pers
  have HP := Lib.hid pers; clear pers own
  go_wp2_with fail
  refine (PeopleValid_any _ _ ps _ HP.out (by omega)).mono ?_
  rintro e w2 ⟨rfl, e2⟩
  go_wp2_with fail
  refine (sPeopleValid_any _ _ ps _ (HP.out.ext e2) (by omega)).mono ?_
  rintro e w3 ⟨rfl, e3⟩
  have E3 := (e1.trans e2).trans e3
  cases hok : okPers ps
  · clear hok
    go_wp2_with fail
    go_ret
    exact ⟨rfl, E3⟩
  have HK := Lib.hid hok; clear hok
  have hk1 : ys.length % (ps.length + 1) < ps.length + 1 := Nat.mod_lt _ (by omega)
  obtain ⟨k, hkk⟩ : ∃ k, ys.length % (ps.length + 1) = k := ⟨_, rfl⟩
  have hmod : (ys.length : Int) % ((ps.length : Int) + 1) = (k : Int) := by rw [← hkk, Int.natCast_emod]; rfl
  rw [hkk] at hk1
  clear hkk
  have hkc : (k : Int) ≤ (c : Int) := by omega
  have P3 := HP.out.ext (e2.trans e3)
  have HP3 := Lib.hid P3; clear P3
  have hlt : (ps.take k).length = k := by rw [List.length_take]; omega
  have HT := Lib.hid hlt; clear hlt
  go_wp2_with fail
  refine (DiffPeople_any _ _ _ _ ps ps _ HP3.out HP3.out (by omega) (by omega)).mono ?_
  rintro e w4 ⟨rfl, e4⟩
  rw [diffPeople_self HK.out]
  have P4 := HP3.out.ext e4
  have q1 := DiffPeople_any a a c c ps (ps.take k) w4 P4 (P4.take k) (by omega) (by rw [HT.out]; omega)
  rw [HT.out, diffPeople_take HK.out (by omega)] at q1
  have Q1 := Lib.hid q1; clear q1 P4
  go_wp2_with fail
  refine Q1.out.mono ?_
  rintro e w5 ⟨rfl, e5⟩
  have P5 := HP3.out.ext (e4.trans e5)
  have q2 := DiffPeople_any a a c c (ps.take k) ps w5 (P5.take k) P5 (by rw [HT.out]; omega) (by omega)
  rw [HT.out, diffPeople_part HK.out (by omega)] at q2
  have Q2 := Lib.hid q2; clear q2 P5
  go_wp2_with fail
  refine Q2.out.mono ?_
  rintro e w6 ⟨rfl, e6⟩
  have E6 := ((E3.trans e4).trans e5).trans e6
  by_cases hkl : k = ps.length
  · have hd : decide (k = ps.length) = true := by simpa using hkl
    have hd2 : ((k : Int) == (ps.length : Int)) = true := beq_iff_eq.2 (by omega)
    clear hkl
    rw [hd]
    go_wp2_with fail
    go_ret
    exact ⟨rfl, E6⟩
  · have hd : decide (k = ps.length) = false := by simpa using hkl
    have hd2 : ((k : Int) == (ps.length : Int)) = false := beq_eq_false_iff_ne.2 (by omega)
    rw [hd]
    go_wp2_with fail
    go_ret
    exact ⟨rfl, E6⟩
set_option maxHeartbeats 1000000 in
theorem FnDiffSame_walk (a0 : Option Addr) (c0 : Nat) (xs : List Int) (w : World) (hx : Bytes w a0 xs) (hm0 : xs.length ≤ 9223372036854775807) (hl0 : xs.length ≤ c0) :
    Calls Try.prog 8 #[.slice a0 xs.length c0] w fun e w' => e = .returned (.bool true) ∧ Ext w w' := by
  by_cases hX : 1048576 < xs.length
  · have hz : (1048576 : Int) < (xs.length : Int) := by omega
    go_enter Try.func8, Try.ntmps8
    go_wp2_with fail
    go_ret
    exact ⟨rfl, Ext.refl _⟩
  have hz0 : ¬ (1048576 : Int) < (xs.length : Int) := by omega
  have hb0 : decide (1048576 < xs.length) = false := by simpa using hX
  have HX := Lib.hid hx; clear hx
  go_enter Try.func8, Try.ntmps8
  go_wp2_with fail
  refine (DrawDiffSame_any _ _ xs _ HX.out hm0 hl0).mono ?_
  rintro e w1 ⟨u, v, ps, qs, rfl, hl, hl2, own, own2, e1⟩
  obtain ⟨a, c, rfl, hc, pers⟩ := own.pers
  obtain ⟨b, d, rfl, hd, pers2⟩ := own2.pers
  have HP := Lib.hid pers; clear pers own
  have HQ := Lib.hid pers2; clear pers2 own2
  go_wp2_with fail
  refine (DiffSame_any _ _ _ _ ps qs _ HP.out HQ.out (by omega) (by omega)).mono ?_
  rintro e w2 ⟨rfl, e2⟩
  go_wp2_with fail
  refine (sDiffSame_any _ _ _ _ ps qs _ (HP.out.ext e2) (HQ.out.ext e2) (by omega) (by omega)).mono ?_
  rintro e w3 ⟨rfl, e3⟩
  have E3 := (e1.trans e2).trans e3
  have hbne : (diffSame ps qs != diffSame ps qs) = false := by simp
  have hbeq : (diffSame ps qs == diffSame ps qs) = true := by simp
  by_cases hneg : diffSame ps qs < 0
  · obtain ⟨ds, hds⟩ : ∃ ds, diffSame ps qs = ds := ⟨_, rfl⟩
    rw [hds] at hneg hbne hbeq ⊢
    clear hds
    go_wp2_with fail
    go_ret
    exact ⟨rfl, E3⟩
  obtain ⟨o1, o2⟩ := diffSame_ok (by omega : 0 ≤ diffSame ps qs)
  have hds := diffSame_of o1 o2
  rw [hds] at hneg hbne hbeq ⊢
  have hle1 := common_le ps qs
  have hle2 := common_le_right ps qs
  have P3 := HP.out.ext (e2.trans e3)
  have Q3 := HQ.out.ext (e2.trans e3)
  have q1 := DiffSame_any b a d c qs ps w3 Q3 P3 (by omega) (by omega)
  rw [diffSame_of o2 o1, common_comm qs ps] at q1
  have Q1 := Lib.hid q1; clear q1
  have HP3 := Lib.hid P3; clear P3
  have HQ3 := Lib.hid Q3; clear Q3
  have O1 := Lib.hid o1; have O2 := Lib.hid o2
  have hdp : diffPeople ps qs = (common ps qs == qs.length) := by simp [diffPeople, o1, o2]
  have HD := Lib.hid hdp
  have hss : diffSame ps ps = (ps.length : Int) := by rw [diffSame_of o1 o1, common_self]
  have HS := Lib.hid hss
  clear hds o1 o2 hdp hss
  obtain ⟨m, hm⟩ : ∃ m, common ps qs = m := ⟨_, rfl⟩
  rw [hm] at hneg hbne hbeq hle1 hle2 Q1 HD ⊢
  clear hm
  have hz1 : (m : Int) ≤ (ps.length : Int) := by omega
  have hz2 : (m : Int) ≤ (qs.length : Int) := by omega
  go_wp2_with fail
  refine Q1.out.mono ?_
  rintro e w4 ⟨rfl, e4⟩
  go_wp2_with fail
  refine (DiffPeople_any _ _ _ _ ps qs _ (HP3.out.ext e4) (HQ3.out.ext e4) (by omega) (by omega)).mono ?_
  rintro e w5 ⟨rfl, e5⟩
  rw [HD.out]
  have s1 := DiffSame_any a a c c ps ps w5 (HP3.out.ext (e4.trans e5)) (HP3.out.ext (e4.trans e5)) (by omega) (by omega)
  rw [HS.out] at s1
  have S1 := Lib.hid s1; clear s1
  by_cases hkl : m = qs.length
  · have hd : (m == qs.length) = true := by simpa using hkl
    have hd2 : ((m : Int) == (qs.length : Int)) = true := beq_iff_eq.2 (by omega)
    rw [hd]
    clear hkl hd
    go_wp2_with fail
    refine S1.out.mono ?_
    rintro e w6 ⟨rfl, e6⟩
    go_wp2_with fail
    go_ret
    exact ⟨rfl, ((E3.trans e4).trans e5).trans e6⟩
  · have hd : (m == qs.length) = false := by simpa using hkl
    have hd2 : ((m : Int) == (qs.length : Int)) = false := beq_eq_false_iff_ne.2 (by omega)
    rw [hd]
    clear hkl hd
    go_wp2_with fail
    refine S1.out.mono ?_
    rintro e w6 ⟨rfl, e6⟩
    go_wp2_with fail
    go_ret
    exact ⟨rfl, ((E3.trans e4).trans e5).trans e6⟩
end Go.Proofs.Ytkldaapcpnpdfaa
