/- Two lists of rows have the same sizes. -/
import Derived.Test.YtelcdjbbcffliaaTabImpl2
namespace Go.Proofs.Ytelcdjbbcffliaa
open Go.RowKit Go.DC
def shape {α : Type} (t : List (List α)) : List Nat := t.map List.length
theorem shape_eq {α β : Type} {s : List (List α)} {t : List (List β)} (hl : s.length = t.length) (h : ∀ k (h1 : k < s.length) (h2 : k < t.length), s[k].length = t[k].length) : shape s = shape t := by
  apply List.ext_getElem
  · simpa [shape] using hl
  · intro i h1 h2
    simp only [shape, List.length_map] at h1 h2
    simpa [shape] using h i h1 h2
theorem shape_ne {α β : Type} {s : List (List α)} {t : List (List β)} {k : Nat} (h1 : k < s.length) (h2 : k < t.length) (h : ¬ s[k].length = t[k].length) : ¬ shape s = shape t := fun e => h (by
  have e1 : (shape s)[k]? = some s[k].length := by simp [shape, h1]
  have e2 : (shape t)[k]? = some t[k].length := by simp [shape, h2]
  rw [e, e2] at e1
  exact (Option.some.inj e1).symm)
theorem shape_len {α β : Type} {s : List (List α)} {t : List (List β)} (e : shape s = shape t) : s.length = t.length := by
  have := congrArg List.length e
  simpa [shape] using this
set_option maxHeartbeats 1000000 in
theorem lenEq_any (a b : Option Addr) (n m c d : Nat) (w : World) :
    Calls Try.prog 74 #[.slice a n c, .slice b m d] w fun e w' => e = .returned (.bool (decide (n = m))) ∧ w = w' := by
  go_enter Try.func74, Try.ntmps74
  go_wp2
  go_ret
  refine ⟨ret_bool ?_, rfl⟩
  rw [Bool.eq_iff_iff]; simp; try omega
set_option maxHeartbeats 1000000 in
theorem EqualFunc_any (a b : Option Addr) (c d : Nat) (s t : List (List Int)) (w : World) (hs : IRows w a s) (ht : IRows w b t) (hm : s.length ≤ 9223372036854775807) (_hm2 : t.length ≤ 9223372036854775807) :
    Calls Try.prog 73 #[.slice a s.length c, .slice b t.length d, .func (.func 74) #[] #[]] w fun e w' => e = .returned (.bool (decide (shape s = shape t))) ∧ w = w' := by
  have HS := Lib.hid hs; clear hs
  have HT := Lib.hid ht; clear ht
  by_cases hl : s.length = t.length
  · have hlb : ((s.length : Int) != (t.length : Int)) = false := by rw [hl]; simp
    have HL := Lib.hid hl; clear hl
    go_enter Try.func73, Try.ntmps73
    go_wp2_with fail
    go_loop [17] (fun i => ∃ k : Nat, k ≤ s.length ∧ i = .int .i64 k ∧ (∀ j (h1 : j < s.length) (h2 : j < t.length), j < k → s[j].length = t[j].length)) (fun i => s.length - (intOf i).toNat)
    case atStart => exact ⟨0, Nat.zero_le _, rfl, fun j _ _ h => absurd h (by omega)⟩
    case round =>
      obtain ⟨k, hk, rfl, hsame⟩ := hrel
      have HA := Lib.hid hsame; clear hsame
      by_cases hlt : k < s.length
      · have hz : (k : Int) < (s.length : Int) := by omega
        have hlt2 : k < t.length := by rw [← HL.out]; exact hlt
        have hz2 : (k : Int) < (t.length : Int) := by omega
        obtain ⟨g1, o1, ak, ck, rfl, c1, _, _, _⟩ := HS.out k hlt
        obtain ⟨g2, o2, bk, dk, rfl, c2, _, _, _⟩ := HT.out k hlt2
        go_wp2_with fail
        refine (lenEq_any _ _ _ _ _ _ _).mono ?_
        rintro e w3 ⟨rfl, rfl⟩
        by_cases he : s[k].length = t[k].length
        · have hb : decide (s[k].length = t[k].length) = true := by simpa using he
          rw [hb]
          have HE := Lib.hid he; clear he hb
          go_wp2_with fail
          go_round
          case rel => exact ⟨k + 1, by omega, by go_num, fun j h1 h2 hj => by
            by_cases e : j = k
            · subst e; exact HE.out
            · exact HA.out j h1 h2 (by omega)⟩
          case measure => simp [intOf]; omega
        · have hb : decide (s[k].length = t[k].length) = false := by simpa using he
          rw [hb]
          have HE := Lib.hid he; clear he hb
          go_wp2_with fail
          go_ret
          exact ⟨ret_bool (decide_eq_false (shape_ne hlt hlt2 HE.out)).symm, rfl⟩
      · have hz : ¬ (k : Int) < (s.length : Int) := by omega
        go_wp2_with fail
        go_ret
        exact ⟨ret_bool (decide_eq_true (shape_eq HL.out (fun j h1 h2 => HA.out j h1 h2 (by omega)))).symm, rfl⟩
  · have hlb : ((s.length : Int) != (t.length : Int)) = true := by rw [bne_iff_ne]; omega
    have hlb2 : ¬ (s.length : Int) = (t.length : Int) := by omega
    have hne : ¬ shape s = shape t := fun e => hl (shape_len e)
    have HN := Lib.hid hne; clear hne hl
    go_enter Try.func73, Try.ntmps73
    go_wp2_with fail
    go_ret
    exact ⟨ret_bool (decide_eq_false HN.out).symm, rfl⟩
set_option maxHeartbeats 1000000 in
theorem sameShape_any (a b : Option Addr) (c d : Nat) (s t : List (List Int)) (w : World) (hs : IRows w a s) (ht : IRows w b t) (hm : s.length ≤ 9223372036854775807) (hm2 : t.length ≤ 9223372036854775807) :
    Calls Try.prog 50 #[.slice a s.length c, .slice b t.length d] w fun e w' => e = .returned (.bool (decide (shape s = shape t))) ∧ w = w' := by
  go_enter Try.func50, Try.ntmps50
  go_wp2_with fail
  refine (EqualFunc_any _ _ _ _ s t _ hs ht hm hm2).mono ?_
  rintro e w3 ⟨rfl, rfl⟩
  go_wp2_with fail
  go_ret
  exact ⟨rfl, rfl⟩
end Go.Proofs.Ytelcdjbbcffliaa
