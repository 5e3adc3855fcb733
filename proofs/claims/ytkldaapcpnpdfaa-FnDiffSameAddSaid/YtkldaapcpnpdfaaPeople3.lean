/- The reference's and the program's counts of common persons. -/
import Derived.Test.YtkldaapcpnpdfaaPeople2
namespace Go.Proofs.Ytkldaapcpnpdfaa
open Go.RowKit Go.DC
def diffSame (ps qs : List Per) : Int := if okPers ps && okPers qs then common ps qs else -1
def diffPeople (ps qs : List Per) : Bool := okPers ps && okPers qs && common ps qs == qs.length

theorem okPers_len {ps : List Per} (h : okPers ps = true) : ps.length ≤ 40 := by
  unfold okPers at h; simp at h; exact h.2

set_option maxHeartbeats 1000000 in
theorem sDiffSame_any (a1 a2 : Option Addr) (c1 c2 : Nat) (ps qs : List Per) (w : World) (hp : Pers w a1 ps) (hq : Pers w a2 qs) (hm1 : ps.length ≤ 9223372036854775807) (hm2 : qs.length ≤ 9223372036854775807) :
    Calls Try.prog 16 #[.slice a1 ps.length c1, .slice a2 qs.length c2] w (Ret (.int .i64 (diffSame ps qs)) w) := by
  have HP := Lib.hid hp; clear hp
  have HQ := Lib.hid hq; clear hq
  go_enter Try.func16, Try.ntmps16
  go_wp2_with fail
  refine (sPeopleValid_any _ _ ps _ HP.out hm1).mono ?_
  rintro e w1 ⟨rfl, e1⟩
  cases h1 : okPers ps
  · have hd : diffSame ps qs = -1 := by simp [diffSame, h1]
    have HD := Lib.hid hd; clear hd h1
    go_wp2
    go_ret
    exact ⟨ret_int HD.out.symm, e1⟩
  · have hl1 := okPers_len h1
    have H1 := Lib.hid h1; clear h1
    go_wp2_with fail
    refine (sPeopleValid_any _ _ qs _ (HQ.out.ext e1) hm2).mono ?_
    rintro e w2 ⟨rfl, e2⟩
    cases h2 : okPers qs
    · have hd : diffSame ps qs = -1 := by simp [diffSame, h2]
      have HD := Lib.hid hd; clear hd h2
      go_wp2
      go_ret
      exact ⟨ret_int HD.out.symm, e1.trans e2⟩
    · have hl2 := okPers_len h2
      have hd : diffSame ps qs = common ps qs := by simp [diffSame, h2, H1.out]
      have HD := Lib.hid hd; clear hd h2
      go_wp2_with fail
      refine (l15Same_any _ _ _ _ ps qs _ (HP.out.ext (e1.trans e2)) (HQ.out.ext (e1.trans e2)) hl1 hl2).mono ?_
      rintro e w3 ⟨rfl, e3⟩
      go_wp2
      go_ret
      exact ⟨ret_int HD.out.symm, (e1.trans e2).trans e3⟩

set_option maxHeartbeats 1000000 in
theorem sDiffPeople_any (a1 a2 : Option Addr) (c1 c2 : Nat) (ps qs : List Per) (w : World) (hp : Pers w a1 ps) (hq : Pers w a2 qs) (hm1 : ps.length ≤ 9223372036854775807) (hm2 : qs.length ≤ 9223372036854775807) :
    Calls Try.prog 20 #[.slice a1 ps.length c1, .slice a2 qs.length c2] w (Ret (.bool (diffPeople ps qs)) w) := by
  have HP := Lib.hid hp; clear hp
  have HQ := Lib.hid hq; clear hq
  go_enter Try.func20, Try.ntmps20
  go_wp2_with fail
  refine (sPeopleValid_any _ _ ps _ HP.out hm1).mono ?_
  rintro e w1 ⟨rfl, e1⟩
  cases h1 : okPers ps
  · have hd : diffPeople ps qs = false := by simp [diffPeople, h1]
    have HD := Lib.hid hd; clear hd h1
    go_wp2
    go_ret
    exact ⟨ret_bool HD.out.symm, e1⟩
  · have hl1 := okPers_len h1
    have H1 := Lib.hid h1; clear h1
    go_wp2_with fail
    refine (sPeopleValid_any _ _ qs _ (HQ.out.ext e1) hm2).mono ?_
    rintro e w2 ⟨rfl, e2⟩
    cases h2 : okPers qs
    · have hd : diffPeople ps qs = false := by simp [diffPeople, h2]
      have HD := Lib.hid hd; clear hd h2
      go_wp2
      go_ret
      exact ⟨ret_bool HD.out.symm, e1.trans e2⟩
    · have hl2 := okPers_len h2
      have hd : diffPeople ps qs = (common ps qs == qs.length) := by simp [diffPeople, h2, H1.out]
      have HD := Lib.hid hd; clear hd h2
      go_wp2_with fail
      refine (l15Same_any _ _ _ _ ps qs _ (HP.out.ext (e1.trans e2)) (HQ.out.ext (e1.trans e2)) hl1 hl2).mono ?_
      rintro e w3 ⟨rfl, e3⟩
      go_wp2
      go_ret
      refine ⟨ret_bool ?_, (e1.trans e2).trans e3⟩
      rw [HD.out, Bool.eq_iff_iff]; simp; omega

end Go.Proofs.Ytkldaapcpnpdfaa
