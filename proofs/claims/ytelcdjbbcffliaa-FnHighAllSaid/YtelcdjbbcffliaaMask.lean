/- Masks of tables: both checks. -/
import Derived.Test.YtelcdjbbcffliaaTabCopyB
import Derived.Test.YtelcdjbbcffliaaSpecTab
namespace Go.Proofs.Ytelcdjbbcffliaa
open Go.RowKit Go.DC
/-- A mask of a table. -/
def maskOk (t : List (List Int)) (m : List (List Bool)) : Bool := tabOk t && decide (m.length = t.length) && m.all (fun r => r.length == wide t)
theorem maskOk_no {t : List (List Int)} {m : List (List Bool)} {k : Nat} (hk : k < m.length) (h : ¬ m[k].length = wide t) : maskOk t m = false := by
  unfold maskOk
  rw [all_not hk (by simpa using h), Bool.and_false]
theorem maskOk_yes {t : List (List Int)} {m : List (List Bool)} (h1 : tabOk t = true) (hl : m.length = t.length) (h : ∀ k (hk : k < m.length), m[k].length = wide t) : maskOk t m = true := by
  unfold maskOk
  simp only [h1, hl, decide_true, Bool.and_true, Bool.true_and, List.all_eq_true]
  intro r hr
  obtain ⟨k, hk, rfl⟩ := List.getElem_of_mem hr
  simpa using h k hk
theorem maskOk_rect {t : List (List Int)} {m : List (List Bool)} (h : maskOk t m = true) : tabOk t = true ∧ Rect m t.length (wide t) := by
  unfold maskOk at h
  simp only [Bool.and_eq_true, decide_eq_true_eq, List.all_eq_true, beq_iff_eq] at h
  exact ⟨h.1.1, h.1.2, fun k hk => h.2 _ (List.getElem_mem hk)⟩
set_option maxHeartbeats 1000000 in
theorem MaskValid_any (a b : Option Addr) (c d : Nat) (t : List (List Int)) (m : List (List Bool)) (w : World) (ht : IRows w a t) (hmk : BRows w b m) (hm : t.length ≤ 9223372036854775807) (hm2 : m.length ≤ 9223372036854775807) :
    Calls Try.prog 49 #[.slice a t.length c, .slice b m.length d] w fun e w' => e = .returned (.bool (maskOk t m)) ∧ w = w' := by
  have HT := Lib.hid ht; clear ht
  have HM := Lib.hid hmk; clear hmk
  go_enter Try.func49, Try.ntmps49
  go_wp2_with fail
  refine (TableValid_any _ _ t _ HT.out hm).mono ?_
  rintro e w' ⟨rfl, rfl⟩
  cases o1 : tabOk t
  · have hd : maskOk t m = false := by simp [maskOk, o1]
    have HD := Lib.hid hd; clear hd o1
    go_wp2_with fail
    go_ret
    exact ⟨ret_bool HD.out.symm, rfl⟩
  have O1 := Lib.hid o1; clear o1
  by_cases hl : m.length = t.length
  · have hlb : ((m.length : Int) != (t.length : Int)) = false := by rw [hl]; simp
    have HL := Lib.hid hl; clear hl
    obtain ⟨_, h1, _, _, _, _⟩ := tabOk_rect O1.out
    obtain ⟨b0, off0, a0, c0, rfl, hc0, _, _, _⟩ := HT.out 0 (by omega)
    rw [← wide_eq (by omega)] at hc0
    simp only [Nat.add_zero] at hc0
    have h0z : (0 : Int) < (t.length : Int) := by omega
    go_wp2_with fail
    go_loop [19] (fun i => ∃ k : Nat, k ≤ m.length ∧ i = .int .i64 k ∧ Hid (∀ j (hj : j < m.length), j < k → m[j].length = wide t)) (fun i => m.length - (intOf i).toNat)
    case atStart => exact ⟨0, Nat.zero_le _, rfl, fun j _ h => absurd h (by omega)⟩
    case round =>
      obtain ⟨k, hk, rfl, hall⟩ := hrel
      by_cases hlt : k < m.length
      · have hz : (k : Int) < (m.length : Int) := by omega
        obtain ⟨bk, offk, ak, ck, rfl, hck, _, _, _⟩ := HM.out k hlt
        by_cases hw : m[k].length = wide t
        · have hwb : ((m[k].length : Int) != (wide t : Int)) = false := by rw [hw]; simp
          have HW := Lib.hid hw; clear hw
          go_wp2_with fail
          go_round
          case rel => exact ⟨k + 1, by omega, by go_num, fun j hj h => by
            by_cases e : j = k
            · subst e; exact HW.out
            · exact hall j hj (by omega)⟩
          case measure => simp [intOf]; omega
        · have hwb : ((m[k].length : Int) != (wide t : Int)) = true := by rw [bne_iff_ne]; omega
          have hwz : ¬ (m[k].length : Int) = (wide t : Int) := by omega
          have HW := Lib.hid (maskOk_no hlt hw); clear hw
          go_wp2_with fail
          go_ret
          exact ⟨ret_bool HW.out.symm, rfl⟩
      · have hz : ¬ (k : Int) < (m.length : Int) := by omega
        go_wp2_with fail
        go_ret
        exact ⟨ret_bool (maskOk_yes O1.out HL.out (fun j hj => hall j hj (by omega))).symm, rfl⟩
  · have hlb : ((m.length : Int) != (t.length : Int)) = true := by rw [bne_iff_ne]; omega
    have hlz : ¬ (m.length : Int) = (t.length : Int) := by omega
    have hd : maskOk t m = false := by simp [maskOk, hl]
    have HD := Lib.hid hd; clear hd hl
    go_wp2_with fail
    go_ret
    exact ⟨ret_bool HD.out.symm, rfl⟩
set_option maxHeartbeats 1000000 in
theorem sMaskValid_any (a b : Option Addr) (c d : Nat) (t : List (List Int)) (m : List (List Bool)) (w : World) (ht : IRows w a t) (hmk : BRows w b m) (hm : t.length ≤ 9223372036854775807) (hm2 : m.length ≤ 9223372036854775807) :
    Calls Try.prog 54 #[.slice a t.length c, .slice b m.length d] w (Ret (.bool (maskOk t m)) w) := by
  have HT := Lib.hid ht; clear ht
  have HM := Lib.hid hmk; clear hmk
  go_enter Try.func54, Try.ntmps54
  go_wp2_with fail
  refine (sTableValid_any _ _ t _ HT.out hm).mono ?_
  rintro e w1 ⟨rfl, e1⟩
  cases o1 : tabOk t
  · have hd : maskOk t m = false := by simp [maskOk, o1]
    have HD := Lib.hid hd; clear hd o1
    go_wp2_with fail
    go_ret
    exact ⟨ret_bool HD.out.symm, e1⟩
  have O1 := Lib.hid o1; clear o1
  by_cases hl : m.length = t.length
  · have hlb : ((m.length : Int) != (t.length : Int)) = false := by rw [hl]; simp
    obtain ⟨_, h1, _, _, _, _⟩ := tabOk_rect O1.out
    have h0z : (0 : Int) < (t.length : Int) := by omega
    have HL := Lib.hid hl; clear hl
    go_wp2_with fail
    go_loopg [5] m.length (fun g i wr => ∃ k : Nat, k ≤ m.length ∧ g = m.length - k ∧ i = .int .i64 k ∧ Hid (∀ j (hj : j < m.length), j < k → m[j].length = wide t) ∧ Ext w wr)
    case atStart => exact ⟨0, Nat.zero_le _, rfl, rfl, fun j _ h => absurd h (by omega), e1⟩
    case round =>
      obtain ⟨k, hk, rfl, rfl, hall, hext⟩ := hrel
      by_cases hlt : k < m.length
      · have hz : (k : Int) < (m.length : Int) := by omega
        obtain ⟨bk, offk, ak, ck, rfl, hck, _, _, _⟩ := (HM.out.ext hext) k hlt
        obtain ⟨b0, off0, a0, c0, rfl, hc0, _, _, _⟩ := (HT.out.ext hext) 0 (by omega)
        rw [← wide_eq (by omega)] at hc0
        simp only [Nat.add_zero] at hc0
        by_cases hw : m[k].length = wide t
        · have hwb : ((m[k].length : Int) != (wide t : Int)) = false := by rw [hw]; simp
          have HW := Lib.hid hw; clear hw
          go_wp2_with fail
          go_quiet (fail)
          go_wp2_with fail
          go_roundg (m.length - (k + 1))
          case measure => omega
          case rel => exact ⟨k + 1, by omega, rfl, by go_num, fun j hj h => by
            by_cases e : j = k
            · subst e; exact HW.out
            · exact hall j hj (by omega), hext.drewN _⟩
        · have hwb : ((m[k].length : Int) != (wide t : Int)) = true := by rw [bne_iff_ne]; omega
          have hwz : ¬ (m[k].length : Int) = (wide t : Int) := by omega
          have HW := Lib.hid (maskOk_no hlt hw); clear hw
          go_wp2_with fail
          go_quiet (fail)
          go_wp2_with fail
          go_ret
          exact ⟨ret_bool HW.out.symm, hext.drewN _⟩
      · have hz : ¬ (k : Int) < (m.length : Int) := by omega
        go_wp2_with fail
        go_ret
        exact ⟨ret_bool (maskOk_yes O1.out HL.out (fun j hj => hall j hj (by omega))).symm, hext⟩
  · have hlb : ((m.length : Int) != (t.length : Int)) = true := by rw [bne_iff_ne]; omega
    have hlz : ¬ (m.length : Int) = (t.length : Int) := by omega
    have hd : maskOk t m = false := by simp [maskOk, hl]
    have HD := Lib.hid hd; clear hd hl
    go_wp2_with fail
    go_ret
    exact ⟨ret_bool HD.out.symm, e1⟩
end Go.Proofs.Ytelcdjbbcffliaa
