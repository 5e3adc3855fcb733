/- The bounds of a cell; whether there is a cell. -/
import Derived.Test.YtelcdjbbcffliaaShiftFill
import Derived.Test.YtelcdjbbcffliaaFlowLaw
namespace Go.Proofs.Ytelcdjbbcffliaa
open Go.RowKit Go.DC
/-- There is a cell (i, j). -/
def hasC (t : List (List Int)) (mk : List (List Bool)) (i j : Int) : Bool := maskOk t mk && (decide (0 ≤ i) && decide (i < t.length) && (decide (0 ≤ j) && decide (j < wide t)))
theorem hasC_no {t : List (List Int)} {mk : List (List Bool)} {i j : Int} (h : maskOk t mk = false) : hasC t mk i j = false := by unfold hasC; rw [h]; rfl
theorem hasC_iff {t : List (List Int)} {mk : List (List Bool)} {i j : Int} : hasC t mk i j = true ↔ maskOk t mk = true ∧ 0 ≤ i ∧ i < t.length ∧ 0 ≤ j ∧ j < wide t := by
  unfold hasC
  simp only [Bool.and_eq_true, decide_eq_true_eq]
  constructor
  · rintro ⟨h1, ⟨h2, h3⟩, h4, h5⟩; exact ⟨h1, h2, h3, h4, h5⟩
  · rintro ⟨h1, h2, h3, h4, h5⟩; exact ⟨h1, ⟨h2, h3⟩, h4, h5⟩
theorem hasC_nat {t : List (List Int)} {mk : List (List Bool)} {i j : Int} (h : hasC t mk i j = true) : ∃ i' j' : Nat, i = i' ∧ j = j' ∧ i' < t.length ∧ j' < wide t ∧ maskOk t mk = true := by
  obtain ⟨h1, h2, h3, h4, h5⟩ := hasC_iff.1 h
  exact ⟨i.toNat, j.toNat, by omega, by omega, by omega, by omega, h1⟩
/-- The greatest and the least number of a cell, -1 where there is none. -/
noncomputable def highV (t : List (List Int)) (mk : List (List Bool)) (i j : Int) : Int := if hasC t mk i j then high t.length (wide t) (get 0 t) (get false mk) i.toNat j.toNat else -1
noncomputable def lowV (t : List (List Int)) (mk : List (List Bool)) (i j : Int) : Int := if hasC t mk i j then low t.length (wide t) (get 0 t) (get false mk) i.toNat j.toNat else -1
theorem highV_no {t : List (List Int)} {mk : List (List Bool)} {i j : Int} (h : hasC t mk i j = false) : highV t mk i j = -1 := by unfold highV; rw [h]; rfl
theorem lowV_no {t : List (List Int)} {mk : List (List Bool)} {i j : Int} (h : hasC t mk i j = false) : lowV t mk i j = -1 := by unfold lowV; rw [h]; rfl
theorem highV_at {t : List (List Int)} {mk : List (List Bool)} {i j : Nat} (h : maskOk t mk = true) (hi : i < t.length) (hj : j < wide t) : highV t mk i j = high t.length (wide t) (get 0 t) (get false mk) i j := by
  unfold highV; rw [if_pos (hasC_iff.2 ⟨h, by omega, by omega, by omega, by omega⟩)]; rfl
theorem lowV_at {t : List (List Int)} {mk : List (List Bool)} {i j : Nat} (h : maskOk t mk = true) (hi : i < t.length) (hj : j < wide t) : lowV t mk i j = low t.length (wide t) (get 0 t) (get false mk) i j := by
  unfold lowV; rw [if_pos (hasC_iff.2 ⟨h, by omega, by omega, by omega, by omega⟩)]; rfl
theorem maskOk_pos {t : List (List Int)} {mk : List (List Bool)} (h : maskOk t mk = true) : Pos t.length (wide t) (get 0 t) := fun k l hk hl => ((tabOk_rect (maskOk_rect h).1).2.2.2.2.2 k l hk hl).1
theorem maskOk_lens {t : List (List Int)} {mk : List (List Bool)} (h : maskOk t mk = true) : 1 ≤ t.length ∧ t.length ≤ 4 ∧ 1 ≤ wide t ∧ wide t ≤ 4 := by
  obtain ⟨_, h1, h4, m1, m4, _⟩ := tabOk_rect (maskOk_rect h).1
  exact ⟨h1, h4, m1, m4⟩
theorem high_bd {t : List (List Int)} {mk : List (List Bool)} (h : maskOk t mk = true) {i j : Nat} (hi : i < t.length) (hj : j < wide t) : 0 ≤ high t.length (wide t) (get 0 t) (get false mk) i j ∧ high t.length (wide t) (get 0 t) (get false mk) i j ≤ 396 := by
  obtain ⟨_, h1, h4, m1, m4, hc⟩ := tabOk_rect (maskOk_rect h).1
  have h0 := maskOk_pos h
  have a := high_ge (b := get false mk) h0 hi hj
  have c := h0 i j hi hj
  have d := high_row_le (b := get false mk) h0 hi hj
  have e : sumN (wide t) (get 0 t i) ≤ sumN (wide t) (fun _ => 99) := sumN_le fun l hl => (hc i l hi hl).2
  rw [sumN_const] at e
  omega
theorem low_bd {t : List (List Int)} {mk : List (List Bool)} (h : maskOk t mk = true) {i j : Nat} (hi : i < t.length) (hj : j < wide t) : 0 ≤ low t.length (wide t) (get 0 t) (get false mk) i j ∧ low t.length (wide t) (get 0 t) (get false mk) i j ≤ 99 := by
  obtain ⟨_, h1, h4, m1, m4, hc⟩ := tabOk_rect (maskOk_rect h).1
  have h0 := maskOk_pos h
  have a := low_le (b := get false mk) h0 hi hj
  have c := low_pos (b := get false mk) h0 hi hj
  have d := (hc i j hi hj).2
  omega
set_option maxHeartbeats 1000000 in
theorem hasCell_any (a mb : Option Addr) (c d : Nat) (t : List (List Int)) (mk : List (List Bool)) (i j : Int) (w : World) (ht : IRows w a t) (hmk : BRows w mb mk) (hm : t.length ≤ 9223372036854775807) (hm2 : mk.length ≤ 9223372036854775807) :
    Calls Try.prog 42 #[.slice a t.length c, .slice mb mk.length d, .int .i64 i, .int .i64 j] w fun e w' => e = .returned (.bool (hasC t mk i j)) ∧ w = w' := by
  have HT := Lib.hid ht; clear ht
  have HM := Lib.hid hmk; clear hmk
  go_enter Try.func42, Try.ntmps42
  go_wp2_with fail
  refine (MaskValid_any _ _ _ _ t mk _ HT.out HM.out hm hm2).mono ?_
  rintro e w' ⟨rfl, rfl⟩
  cases o1 : maskOk t mk
  · have HD := Lib.hid (hasC_no (i := i) (j := j) o1); clear o1
    go_wp2_with fail
    go_ret
    exact ⟨ret_bool HD.out.symm, rfl⟩
  have O1 := Lib.hid o1; clear o1
  obtain ⟨h1, _, _, _⟩ := maskOk_lens O1.out
  obtain ⟨b0, off0, a0, c0, rfl, hc0, _, _, _⟩ := HT.out 0 (by omega)
  rw [← wide_eq (by omega)] at hc0
  simp only [Nat.add_zero] at hc0
  have h0z : (0 : Int) < (t.length : Int) := by omega
  by_cases e1 : 0 ≤ i
  · by_cases e2 : i < t.length
    · by_cases e3 : 0 ≤ j
      · by_cases e4 : j < wide t
        · have hd : hasC t mk i j = true := hasC_iff.2 ⟨O1.out, e1, e2, e3, e4⟩
          have HD := Lib.hid hd; clear hd
          have hb1 : decide (0 ≤ i) = true := by simpa using e1
          have hb2 : decide (i < (t.length : Int)) = true := by simpa using e2
          have hb3 : decide (0 ≤ j) = true := by simpa using e3
          have hb4 : decide (j < (wide t : Int)) = true := by simpa using e4
          go_wp2_with fail
          go_ret
          exact ⟨ret_bool HD.out.symm, rfl⟩
        · have hd : hasC t mk i j = false := Bool.eq_false_iff.2 fun h => e4 (hasC_iff.1 h).2.2.2.2
          have HD := Lib.hid hd; clear hd
          have hb1 : decide (0 ≤ i) = true := by simpa using e1
          have hb2 : decide (i < (t.length : Int)) = true := by simpa using e2
          have hb3 : decide (0 ≤ j) = true := by simpa using e3
          have hb4 : decide (j < (wide t : Int)) = false := by simpa using e4
          go_wp2_with fail
          go_ret
          exact ⟨ret_bool HD.out.symm, rfl⟩
      · have hd : hasC t mk i j = false := Bool.eq_false_iff.2 fun h => e3 (hasC_iff.1 h).2.2.2.1
        have HD := Lib.hid hd; clear hd
        have hb1 : decide (0 ≤ i) = true := by simpa using e1
        have hb2 : decide (i < (t.length : Int)) = true := by simpa using e2
        have hb3 : decide (0 ≤ j) = false := by simpa using e3
        go_wp2_with fail
        go_ret
        exact ⟨ret_bool HD.out.symm, rfl⟩
    · have hd : hasC t mk i j = false := Bool.eq_false_iff.2 fun h => e2 (hasC_iff.1 h).2.2.1
      have HD := Lib.hid hd; clear hd
      have hb1 : decide (0 ≤ i) = true := by simpa using e1
      have hb2 : decide (i < (t.length : Int)) = false := by simpa using e2
      go_wp2_with fail
      go_ret
      exact ⟨ret_bool HD.out.symm, rfl⟩
  · have hd : hasC t mk i j = false := Bool.eq_false_iff.2 fun h => e1 (hasC_iff.1 h).2.1
    have HD := Lib.hid hd; clear hd
    have hb1 : decide (0 ≤ i) = false := by simpa using e1
    go_wp2_with fail
    go_ret
    exact ⟨ret_bool HD.out.symm, rfl⟩
end Go.Proofs.Ytelcdjbbcffliaa
