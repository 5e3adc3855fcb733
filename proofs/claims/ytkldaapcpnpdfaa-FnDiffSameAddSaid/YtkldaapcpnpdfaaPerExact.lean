/- What the exact laws use on persons. -/
import Derived.Test.YtkldaapcpnpdfaaPerMap
import Derived.Test.YtkldaapcpnpdfaaPeople3
namespace Go.Proofs.Ytkldaapcpnpdfaa
open Go.RowKit Go.DC
set_option maxHeartbeats 1000000 in
theorem DiffSame_any (a1 a2 : Option Addr) (c1 c2 : Nat) (ps qs : List Per) (w : World) (hp : Pers w a1 ps) (hq : Pers w a2 qs) (hm1 : ps.length ≤ 9223372036854775807) (hm2 : qs.length ≤ 9223372036854775807) :
    Calls Try.prog 18 #[.slice a1 ps.length c1, .slice a2 qs.length c2] w (Ret (.int .i64 (diffSame ps qs)) w) := by
  by_cases hok : okPers ps = true ∧ okPers qs = true
  · have hd : diffSame ps qs = common ps qs := by simp [diffSame, hok.1, hok.2]
    rw [hd]
    exact DiffSame_yes a1 a2 c1 c2 ps qs w hp hq hok.1 hok.2 (okPers_len hok.1) (okPers_len hok.2)
  have hd : diffSame ps qs = -1 := by
    unfold diffSame; rw [if_neg (by simpa using hok)]
  rw [hd]
  have HK := Lib.hid hok; clear hok hd
  have HP := Lib.hid hp; clear hp
  have HQ := Lib.hid hq; clear hq
  go_enter Try.func18, Try.ntmps18
  go_wp2_with fail
  refine (PeopleValid_any _ _ ps _ HP.out hm1).mono ?_
  rintro e w1 ⟨rfl, e1⟩
  cases h1 : okPers ps
  · clear h1
    go_wp2
    go_ret
    exact ⟨rfl, e1⟩
  · have h2 : okPers qs = false := by have := HK.out; rw [h1] at this; simpa using this
    have H2 := Lib.hid h2; clear h1 h2
    go_wp2_with fail
    refine (PeopleValid_any _ _ qs _ (HQ.out.ext e1) hm2).mono ?_
    rintro e w2 ⟨rfl, e2⟩
    rw [H2.out]
    go_wp2
    go_ret
    exact ⟨rfl, e1.trans e2⟩
set_option maxHeartbeats 1000000 in
theorem DiffPeople_any (a1 a2 : Option Addr) (c1 c2 : Nat) (ps qs : List Per) (w : World) (hp : Pers w a1 ps) (hq : Pers w a2 qs) (hm1 : ps.length ≤ 9223372036854775807) (hm2 : qs.length ≤ 9223372036854775807) :
    Calls Try.prog 14 #[.slice a1 ps.length c1, .slice a2 qs.length c2] w (Ret (.bool (diffPeople ps qs)) w) := by
  have HP := Lib.hid hp; clear hp
  have HQ := Lib.hid hq; clear hq
  go_enter Try.func14, Try.ntmps14
  go_wp2_with fail
  refine (PeopleValid_any _ _ ps _ HP.out hm1).mono ?_
  rintro e w1 ⟨rfl, e1⟩
  cases h1 : okPers ps
  · have hd : diffPeople ps qs = false := by simp [diffPeople, h1]
    have HD := Lib.hid hd; clear hd h1
    go_wp2
    go_ret
    exact ⟨ret_bool HD.out.symm, e1⟩
  · have hl1 := okPers_len h1
    have H1 := Lib.hid h1; clear h1
    go_wp2_with fail
    refine (PeopleValid_any _ _ qs _ (HQ.out.ext e1) hm2).mono ?_
    rintro e w2 ⟨rfl, e2⟩
    cases h2 : okPers qs
    · have hd : diffPeople ps qs = false := by simp [diffPeople, h2]
      have HD := Lib.hid hd; clear hd h2
      go_wp2
      go_ret
      exact ⟨ret_bool HD.out.symm, e1.trans e2⟩
    · have hl2 := okPers_len h2
      have hd : diffPeople ps qs = (common ps qs == qs.length) := by simp [diffPeople, h2, H1.out]
      have HD := Lib.hid hd; clear hd
      have H2 := Lib.hid h2; clear h2
      go_wp2_with fail
      refine (DiffSame_yes _ _ _ _ ps qs _ (HP.out.ext (e1.trans e2)) (HQ.out.ext (e1.trans e2)) H1.out H2.out hl1 hl2).mono ?_
      rintro e w3 ⟨rfl, e3⟩
      go_wp2
      go_ret
      refine ⟨ret_bool ?_, (e1.trans e2).trans e3⟩
      rw [HD.out, Bool.eq_iff_iff]; simp; omega

set_option maxHeartbeats 400000 in
theorem szPersonS_any (a : Option Addr) (n c : Nat) (left : Int) (w : World) (h0 : 0 ≤ left) (h1 : left ≤ 1048576) (hn : n ≤ 9223372036854775807) :
    Calls Try.prog 15 #[.slice a n c, .int .i64 left] w fun e w' => e = .returned (.int .i64 (if left < n then -1 else left - n)) ∧ w = w' := by
  by_cases h : left < n
  · rw [if_pos h]
    have h' : left - (n : Int) < 0 := by omega
    go_enter Try.func15, Try.ntmps15
    go_wp2
    go_ret
    exact ⟨rfl, rfl⟩
  · rw [if_neg h]
    have h' : ¬ left - (n : Int) < 0 := by omega
    go_enter Try.func15, Try.ntmps15
    go_wp2
    go_ret
    exact ⟨rfl, rfl⟩

set_option maxHeartbeats 400000 in
theorem toPerson_any (p : Per) (w : World) :
    Calls Try.prog 35 #[p.val] w (Ret p.val w) := by
  obtain ⟨a, j, s, p⟩ := p
  have hv : (Per.mk a j s p).val = .agg #[.int .i64 a, .int .i64 j, .int .i64 s, .int .i64 p] := rfl
  rw [hv]; clear hv
  go_enter Try.func35, Try.ntmps35
  go_wp2
  go_returns
  refine ⟨rfl, ?_⟩
  exact (((Ext.refl _).alloc _).alloc _).alloc _

set_option maxHeartbeats 1000000 in
theorem eqPerson_yes (p : Per) (w : World) :
    Calls Try.prog 36 #[p.val, p.val] w (Ret (.bool true) w) := by
  obtain ⟨a, j, s, p⟩ := p
  have hv : (Per.mk a j s p).val = .agg #[.int .i64 a, .int .i64 j, .int .i64 s, .int .i64 p] := rfl
  rw [hv]; clear hv
  go_enter Try.func36, Try.ntmps36
  go_wp2
  go_ret
  exact ⟨rfl, ((Ext.refl _).alloc _).alloc _⟩
end Go.Proofs.Ytkldaapcpnpdfaa
