/- The program's checks of tables and its helpers on them. -/
import Derived.Test.YtelcdjbbcffliaaRows
import Derived.Test.YtelcdjbbcffliaaTab
namespace Go.Proofs.Ytelcdjbbcffliaa
open Go.RowKit Go.DC
abbrev encI (z : Int) : Value := .int .i64 z
abbrev encB (b : Bool) : Value := .bool b
abbrev IRow := @TRow Int encI
abbrev IRows := @TRows Int encI
abbrev BRow := @TRow Bool encB
abbrev BRows := @TRows Bool encB

def cellOk (n : Int) : Bool := decide (0 ≤ n) && decide (n ≤ 99)
def rowOk (m : Nat) (r : List Int) : Bool := r.length == m && r.all cellOk
def wide (t : List (List Int)) : Nat := (t.headD []).length
def tabOk (t : List (List Int)) : Bool := decide (1 ≤ t.length) && decide (t.length ≤ 4) && decide (1 ≤ wide t) && decide (wide t ≤ 4) && t.all (rowOk (wide t))

theorem wide_eq {t : List (List Int)} (h : 0 < t.length) : wide t = t[0].length := by
  cases t with
  | nil => simp at h
  | cons r t => rfl

theorem tabOk_short {t : List (List Int)} (h : ¬ (1 ≤ t.length ∧ t.length ≤ 4 ∧ 1 ≤ wide t ∧ wide t ≤ 4)) : tabOk t = false := by
  unfold tabOk
  rw [Bool.eq_false_iff]
  intro e
  simp only [Bool.and_eq_true, decide_eq_true_eq] at e
  exact h ⟨e.1.1.1.1, e.1.1.1.2, e.1.1.2, e.1.2⟩
theorem tabOk_long {t : List (List Int)} (h : 1 ≤ t.length ∧ t.length ≤ 4 ∧ 1 ≤ wide t ∧ wide t ≤ 4) : tabOk t = t.all (rowOk (wide t)) := by
  unfold tabOk
  simp [h.1, h.2.1, h.2.2.1, h.2.2.2]
theorem all_step {α : Type} {p : α → Bool} {l : List α} {k : Nat} (h : k < l.length) (ha : (l.take k).all p = true) (hk : p l[k] = true) : (l.take (k + 1)).all p = true := by
  rw [List.take_succ_eq_append_getElem h, List.all_append, ha]; simp [hk]
theorem all_not {α : Type} {p : α → Bool} {l : List α} {k : Nat} (h : k < l.length) (hk : p l[k] = false) : l.all p = false := by
  rw [List.all_eq_false]; exact ⟨l[k], List.getElem_mem h, by simp [hk]⟩

set_option maxHeartbeats 1000000 in
theorem TableValid_any (a : Option Addr) (c : Nat) (t : List (List Int)) (w : World) (ht : IRows w a t) (hm : t.length ≤ 9223372036854775807) :
    Calls Try.prog 21 #[.slice a t.length c] w fun e w' => e = .returned (.bool (tabOk t)) ∧ w = w' := by
  have HT := Lib.hid ht; clear ht
  rcases Nat.lt_or_ge t.length 1 with h1 | h1
  · have e1 : (t.length : Int) < 1 := by omega
    have ho := Lib.hid (tabOk_short (t := t) (fun h => by omega))
    go_enter Try.func21, Try.ntmps21
    go_wp2_with fail
    go_ret
    exact ⟨ret_bool ho.out.symm, rfl⟩
  have e1 : ¬ (t.length : Int) < 1 := by omega
  have b1 : decide ((t.length : Int) < 1) = false := by simpa using e1
  rcases Nat.lt_or_ge 4 t.length with h2 | h2
  · have e2 : (4 : Int) < (t.length : Int) := by omega
    have ho := Lib.hid (tabOk_short (t := t) (fun h => by omega))
    go_enter Try.func21, Try.ntmps21
    go_wp2_with fail
    go_ret
    exact ⟨ret_bool ho.out.symm, rfl⟩
  have e2 : ¬ (4 : Int) < (t.length : Int) := by omega
  have b2 : decide (4 < t.length) = false := by simpa using h2
  have h0 : 0 < t.length := by omega
  obtain ⟨b, off, a0, c0, rfl, hc0, _, _, hr0⟩ := HT.out 0 h0
  rw [← wide_eq h0] at hc0
  simp only [Nat.add_zero] at hc0
  have h0z : (0 : Int) < (t.length : Int) := by omega
  rcases Nat.lt_or_ge (wide t) 1 with h3 | h3
  · have e3 : (wide t : Int) < 1 := by omega
    have ho := Lib.hid (tabOk_short (t := t) (fun h => by omega))
    go_enter Try.func21, Try.ntmps21
    go_wp2_with fail
    go_ret
    exact ⟨ret_bool ho.out.symm, rfl⟩
  have e3 : ¬ (wide t : Int) < 1 := by omega
  have b3 : decide ((wide t : Int) < 1) = false := by simpa using e3
  rcases Nat.lt_or_ge 4 (wide t) with h4 | h4
  · have e4 : (4 : Int) < (wide t : Int) := by omega
    have ho := Lib.hid (tabOk_short (t := t) (fun h => by omega))
    go_enter Try.func21, Try.ntmps21
    go_wp2_with fail
    go_ret
    exact ⟨ret_bool ho.out.symm, rfl⟩
  have e4 : ¬ (4 : Int) < (wide t : Int) := by omega
  have b4 : decide (4 < wide t) = false := by simpa using h4
  have HL := Lib.hid (tabOk_long (t := t) ⟨h1, h2, h3, h4⟩)
  go_enter Try.func21, Try.ntmps21
  go_wp2_with fail
  go_loop [31] (fun i => ∃ k : Nat, k ≤ t.length ∧ i = .int .i64 k ∧ Hid ((t.take k).all (rowOk (wide t)) = true)) (fun i => t.length - (intOf i).toNat)
  case atStart => exact ⟨0, Nat.zero_le _, rfl, by simp [Hid]⟩
  case round =>
    obtain ⟨k, hk, rfl, hall⟩ := hrel
    by_cases hlt : k < t.length
    · have hltz : (k : Int) < (t.length : Int) := by omega
      obtain ⟨b', off', ak, ck, hb, hck, _, _, hrk⟩ := HT.out k hlt
      cases hb
      by_cases hw : t[k].length = wide t
      · rw [hw] at hck
        have HRK := Lib.hid hrk; clear hrk
        have HW := Lib.hid hw; clear hw
        go_wp2_with fail
        go_loop [44] (fun i => ∃ j : Nat, j ≤ wide t ∧ i = .int .i64 j ∧ Hid ((t[k].take j).all cellOk = true)) (fun i => wide t - (intOf i).toNat)
        case atStart => exact ⟨0, Nat.zero_le _, rfl, by simp [Hid]⟩
        case round =>
          obtain ⟨j, hj, rfl, hallj⟩ := hrel
          by_cases hjt : j < wide t
          · have hjz : (j : Int) < (wide t : Int) := by omega
            have hjk : j < t[k].length := by rw [HW.out]; exact hjt
            obtain ⟨b2', off2, rfl, hcj⟩ := HRK.out j hjk
            obtain ⟨z, hz⟩ : ∃ z, t[k][j] = z := ⟨_, rfl⟩
            rw [hz] at hcj
            have HZ := Lib.hid hz; clear hz
            unfold encI at hcj
            by_cases hz0 : z < 0
            · go_wp2_with fail
              go_ret
              refine ⟨ret_bool ?_, rfl⟩
              rw [HL.out, all_not hlt]
              unfold rowOk
              rw [all_not hjk, Bool.and_false]
              rw [HZ.out]; simp [cellOk]; omega
            · have bz0 : decide (z < 0) = false := by simpa using hz0
              by_cases hz9 : 99 < z
              · go_wp2_with fail
                go_ret
                refine ⟨ret_bool ?_, rfl⟩
                rw [HL.out, all_not hlt]
                unfold rowOk
                rw [all_not hjk, Bool.and_false]
                rw [HZ.out]; simp [cellOk]; omega
              · have bz9 : decide (99 < z) = false := by simpa using hz9
                go_wp2_with fail
                go_round
                case rel => exact ⟨j + 1, by omega, by go_num, all_step hjk hallj.out (by rw [HZ.out]; simp [cellOk]; omega)⟩
                case measure => simp [intOf]; omega
          · have hjz : ¬ (j : Int) < (wide t : Int) := by omega
            have hrow : rowOk (wide t) t[k] = true := by
              have := hallj.out
              rw [List.take_of_length_le (by rw [HW.out]; omega)] at this
              simp [rowOk, HW.out, this]
            have HR := Lib.hid hrow; clear hrow
            go_wp2_with fail
            go_round
            case rel => exact ⟨k + 1, by omega, by go_num, all_step hlt hall.out HR.out⟩
            case measure => simp [intOf]; omega
      · have hwz : ((t[k].length : Int) != (wide t : Int)) = true := by rw [bne_iff_ne]; omega
        have hwz2 : ¬ (t[k].length : Int) = (wide t : Int) := by omega
        have hno : rowOk (wide t) t[k] = false := by simp [rowOk, hw]
        have HN := Lib.hid hno; clear hno hw
        go_wp2_with fail
        go_ret
        exact ⟨ret_bool (by rw [HL.out, all_not hlt HN.out]), rfl⟩
    · have hltz : ¬ (k : Int) < (t.length : Int) := by omega
      go_wp2_with fail
      go_ret
      refine ⟨ret_bool ?_, rfl⟩
      have := hall.out
      rw [List.take_of_length_le (by omega)] at this
      rw [HL.out, this]
end Go.Proofs.Ytelcdjbbcffliaa
