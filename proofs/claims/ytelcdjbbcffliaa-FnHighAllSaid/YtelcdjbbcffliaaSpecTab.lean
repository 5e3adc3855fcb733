/- The reference's checks of tables. -/
import Derived.Test.YtelcdjbbcffliaaTabSpecI
import Derived.Test.YtelcdjbbcffliaaDiff
namespace Go.Proofs.Ytelcdjbbcffliaa
open Go.RowKit Go.DC
def inBt (n lo hi : Int) : Bool := decide (lo ≤ n) && decide (n ≤ hi)
/-- A call that hands back v and only draws. -/
def Quiet (v : Value) (w : World) (e : Ending) (w' : World) : Prop := e = .returned v ∧ ∃ m, w' = w.drewN m
theorem Quiet.ext {v : Value} {w w' : World} {e : Ending} (h : Quiet v w e w') : e = .returned v ∧ Ext w w' := by
  obtain ⟨he, m, rfl⟩ := h
  exact ⟨he, (Ext.refl w).drewN m⟩
set_option maxHeartbeats 400000 in
theorem l6InT_any (n lo hi : Int) (w : World) :
    Calls Try.prog 70 #[.int .i64 n, .int .i64 lo, .int .i64 hi] w fun e w' => e = .returned (.bool (inBt n lo hi)) ∧ w = w' := by
  by_cases h : lo ≤ n
  · have hh : inBt n lo hi = decide (n ≤ hi) := by simp [inBt, h]
    have H := Lib.hid hh; clear hh
    go_enter Try.func70, Try.ntmps70
    go_wp2
    go_ret
    rw [H.out]; simp
  · have h' : decide (lo ≤ n) = false := by simpa using h
    have hh : inBt n lo hi = false := by simp [inBt, h]
    have H := Lib.hid hh; clear hh
    go_enter Try.func70, Try.ntmps70
    go_wp2
    go_ret
    rw [H.out]; simp
set_option maxHeartbeats 1000000 in
theorem sTableValid_q (a : Option Addr) (c : Nat) (t : List (List Int)) (w : World) (ht : IRows w a t) (hm : t.length ≤ 9223372036854775807) :
    Calls Try.prog 48 #[.slice a t.length c] w (Quiet (.bool (tabOk t)) w) := by
  have HT := Lib.hid ht; clear ht
  by_cases h1 : inBt t.length 1 4 = true
  case neg =>
    have h1' : inBt t.length 1 4 = false := by simpa using h1
    have ho := Lib.hid (tabOk_short (t := t) (fun h => h1 (by simp [inBt]; omega)))
    go_enter Try.func48, Try.ntmps48
    go_wp2_with fail
    refine (l6InT_any _ _ _ _).mono ?_
    rintro e w' ⟨rfl, rfl⟩
    rw [h1']
    clear h1 h1'
    go_wp2_with fail
    go_ret
    exact ⟨ret_bool ho.out.symm, 0, rfl⟩
  have h1' : 1 ≤ t.length ∧ t.length ≤ 4 := by simp [inBt] at h1; omega
  have h0 : 0 < t.length := by omega
  obtain ⟨b, off, a0, c0, rfl, hc0, _, _, _⟩ := HT.out 0 h0
  rw [← wide_eq h0] at hc0
  simp only [Nat.add_zero] at hc0
  have h0z : (0 : Int) < (t.length : Int) := by omega
  have H1 := Lib.hid h1; clear h1
  by_cases h2 : inBt (wide t) 1 4 = true
  case neg =>
    have h2' : inBt (wide t) 1 4 = false := by simpa using h2
    have ho := Lib.hid (tabOk_short (t := t) (fun h => h2 (by simp [inBt]; omega)))
    have H2 := Lib.hid h2'; clear h2 h2'
    go_enter Try.func48, Try.ntmps48
    go_wp2_with fail
    refine (l6InT_any _ _ _ _).mono ?_
    rintro e w' ⟨rfl, rfl⟩
    rw [H1.out]
    go_wp2_with fail
    refine (l6InT_any _ _ _ _).mono ?_
    rintro e w' ⟨rfl, rfl⟩
    rw [H2.out]
    go_wp2_with fail
    go_ret
    exact ⟨ret_bool ho.out.symm, 0, rfl⟩
  have h2' : 1 ≤ wide t ∧ wide t ≤ 4 := by simp [inBt] at h2; omega
  have HL := Lib.hid (tabOk_long (t := t) ⟨h1'.1, h1'.2, h2'.1, h2'.2⟩)
  have H2 := Lib.hid h2; clear h2
  obtain ⟨h1a, h1b⟩ := h1'
  obtain ⟨h2a, h2b⟩ := h2'
  go_enter Try.func48, Try.ntmps48
  go_wp2_with fail
  refine (l6InT_any _ _ _ _).mono ?_
  rintro e w' ⟨rfl, rfl⟩
  rw [H1.out]
  go_wp2_with fail
  refine (l6InT_any _ _ _ _).mono ?_
  rintro e w' ⟨rfl, rfl⟩
  rw [H2.out]
  go_wp2_with fail
  go_loopg [3] t.length (fun g i wr => ∃ (k m : Nat), k ≤ t.length ∧ g = t.length - k ∧ i = .int .i64 k ∧ Hid ((t.take k).all (rowOk (wide t)) = true) ∧ wr = w.drewN m)
  case atStart => exact ⟨0, 0, Nat.zero_le _, rfl, rfl, by simp [Hid], rfl⟩
  case round =>
    obtain ⟨k, m, hk, rfl, rfl, hall, rfl⟩ := hrel
    by_cases hlt : k < t.length
    · have hltz : (k : Int) < (t.length : Int) := by omega
      obtain ⟨b', off', ak, ck, hb, hck, _, _, hrk⟩ := HT.out k hlt
      cases hb
      by_cases hw : t[k].length = wide t
      · rw [hw] at hck
        have HRK := Lib.hid hrk; clear hrk
        have HW := Lib.hid hw; clear hw
        have hwz : ((wide t : Int) != (wide t : Int)) = false := by simp
        go_wp2_with fail
        go_quiet (fail)
        go_wp2_with fail
        obtain ⟨m', hm'⟩ : ∃ m', (w.drewN m).drewN nq = w.drewN m' := ⟨_, World.drewN_drewN _ _ _⟩
        rw [hm']
        clear hm'
        go_loopg [4] (wide t) (fun g i wi => ∃ (j : Nat), j ≤ wide t ∧ g = wide t - j ∧ i = .int .i64 j ∧ Hid ((t[k].take j).all cellOk = true) ∧ wi = w.drewN m')
        case atStart => exact ⟨0, Nat.zero_le _, rfl, rfl, by simp [Hid], rfl⟩
        case round =>
          obtain ⟨j, hj, rfl, rfl, hallj, rfl⟩ := hrel
          by_cases hjt : j < wide t
          · have hjz : (j : Int) < (wide t : Int) := by omega
            have hjk : j < t[k].length := by rw [HW.out]; exact hjt
            obtain ⟨b2', off2, rfl, hcj⟩ := HRK.out j hjk
            obtain ⟨z, hz⟩ : ∃ z, t[k][j] = z := ⟨_, rfl⟩
            rw [hz] at hcj
            have HZ := Lib.hid hz; clear hz
            unfold encI at hcj
            go_wp2_with fail
            refine (l6InT_any _ _ _ _).mono ?_
            rintro e w' ⟨rfl, rfl⟩
            cases hz : inBt z 0 99
            · have hno : cellOk z = false := hz
              have HN := Lib.hid hno; clear hno hz
              go_wp2_with fail
              go_ret
              refine ⟨ret_bool ?_, m', rfl⟩
              rw [HL.out, all_not hlt]
              unfold rowOk
              rw [all_not hjk, Bool.and_false]
              rw [HZ.out]; exact HN.out
            · have hno : cellOk z = true := hz
              have HN := Lib.hid hno; clear hno hz
              go_wp2_with fail
              go_roundg (wide t - (j + 1))
              case measure => omega
              case rel => exact ⟨j + 1, by omega, rfl, by go_num, all_step hjk hallj.out (by rw [HZ.out]; exact HN.out), rfl⟩
          · have hjz : ¬ (j : Int) < (wide t : Int) := by omega
            have hrow : rowOk (wide t) t[k] = true := by
              have := hallj.out
              rw [List.take_of_length_le (by rw [HW.out]; omega)] at this
              simp [rowOk, HW.out, this]
            have HR := Lib.hid hrow; clear hrow
            go_wp2_with fail
            go_roundg (t.length - (k + 1))
            case measure => omega
            case rel => exact ⟨k + 1, m', by omega, rfl, by go_num, all_step hlt hall.out HR.out, rfl⟩
      · have hwz : ((t[k].length : Int) != (wide t : Int)) = true := by rw [bne_iff_ne]; omega
        have hwz2 : ¬ (t[k].length : Int) = (wide t : Int) := by omega
        have hno : rowOk (wide t) t[k] = false := by simp [rowOk, hw]
        have HN := Lib.hid hno; clear hno hw
        go_wp2_with fail
        go_quiet (fail)
        go_wp2_with fail
        go_ret
        exact ⟨ret_bool (by rw [HL.out, all_not hlt HN.out]), _, World.drewN_drewN _ _ _⟩
    · have hltz : ¬ (k : Int) < (t.length : Int) := by omega
      go_wp2_with fail
      go_ret
      refine ⟨ret_bool ?_, m, rfl⟩
      have := hall.out
      rw [List.take_of_length_le (by omega)] at this
      rw [HL.out, this]
theorem sTableValid_any (a : Option Addr) (c : Nat) (t : List (List Int)) (w : World) (ht : IRows w a t) (hm : t.length ≤ 9223372036854775807) :
    Calls Try.prog 48 #[.slice a t.length c] w (Ret (.bool (tabOk t)) w) := (sTableValid_q a c t w ht hm).mono fun _ _ h => h.ext
end Go.Proofs.Ytelcdjbbcffliaa
