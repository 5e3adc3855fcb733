/- Masks of small cells, and how many flags are set. -/
import Derived.Test.YtbnpgbkllglcbaaTabEqB
import Derived.Test.YtbnpgbkllglcbaaCells
namespace Go.Proofs.Ytbnpgbkllglcbaa
open Go.RowKit Go.DC
def smallB (k z : Int) : Bool := decide (0 < z) && decide (z < k)
def smallT (t : List (List Int)) (k : Int) : List (List Bool) := t.map fun r => r.map (smallB k)
theorem smallB_cases (k z : Int) : (0 < z ∧ z < k ∧ smallB k z = true) ∨ (0 < z ∧ ¬ z < k ∧ smallB k z = false) ∨ (¬ 0 < z ∧ smallB k z = false) := by
  unfold smallB
  by_cases h1 : 0 < z
  · by_cases h2 : z < k
    · exact .inl ⟨h1, h2, by simp [h1, h2]⟩
    · exact .inr (.inl ⟨h1, h2, by simp [h2]⟩)
  · exact .inr (.inr ⟨h1, by simp [h1]⟩)
theorem smallT_len (t : List (List Int)) (k : Int) : (smallT t k).length = t.length := by simp [smallT]
theorem smallT_row {t : List (List Int)} {k : Int} {i : Nat} (h : i < t.length) (h' : i < (smallT t k).length) : (smallT t k)[i] = t[i].map (smallB k) := by simp [smallT]
theorem smallT_take (t : List (List Int)) (b : Int) {k : Nat} (h : k < t.length) : smallT (t.take (k + 1)) b = smallT (t.take k) b ++ [t[k].map (smallB b)] := by
  unfold smallT
  rw [List.take_succ_eq_append_getElem h, List.map_append]; rfl
theorem map_take1 {α β : Type} (f : α → β) {l : List α} {j : Nat} (h : j < l.length) : (l.take (j + 1)).map f = (l.take j).map f ++ [f l[j]] := by
  rw [List.take_succ_eq_append_getElem h, List.map_append]; rfl
def cntRow (r : List Bool) : Nat := (r.filter id).length
def manyT (m : List (List Bool)) : Nat := (m.map cntRow).sum
theorem cntRow_take {r : List Bool} {j : Nat} (h : j < r.length) : cntRow (r.take (j + 1)) = cntRow (r.take j) + (if r[j] then 1 else 0) := by
  unfold cntRow
  rw [List.take_succ_eq_append_getElem h, List.filter_append, List.length_append]
  cases r[j] <;> simp
theorem manyT_take {m : List (List Bool)} {k : Nat} (h : k < m.length) : manyT (m.take (k + 1)) = manyT (m.take k) + cntRow m[k] := by
  unfold manyT
  rw [List.take_succ_eq_append_getElem h, List.map_append, List.sum_append]; simp
theorem cntRow_le (r : List Bool) : cntRow r ≤ r.length := List.length_filter_le _ _
theorem manyT_le {m : List (List Bool)} {n : Nat} (h : ∀ x ∈ m, x.length ≤ n) : manyT m ≤ m.length * n := by
  induction m with
  | nil => simp [manyT]
  | cons r m ih =>
    have h1 := ih (fun x hx => h x (by simp [hx]))
    have h2 := cntRow_le r
    have h3 := h r (by simp)
    simp only [manyT, List.map_cons, List.sum_cons, List.length_cons, Nat.add_mul] at h1 ⊢
    omega
set_option maxHeartbeats 1000000 in
theorem MaskMany_any (a : Option Addr) (c : Nat) (m : List (List Bool)) (w : World) (hmk : BRows w a m) (hm : m.length ≤ 1000) (hmm : ∀ x ∈ m, x.length ≤ 1000) :
    Calls Try.prog 33 #[.slice a m.length c] w fun e w' => e = .returned (.int .i64 (manyT m)) ∧ w = w' := by
  have HM := Lib.hid hmk; clear hmk
  have HB := Lib.hid (fun k : Nat => Nat.le_trans (manyT_le (n := 1000) (fun x hx => hmm x (List.mem_of_mem_take (i := k) hx))) (Nat.mul_le_mul_right 1000 (List.length_take_le k m)))
  have HL := Lib.hid hmm; clear hmm
  go_enter Try.func33, Try.ntmps33
  go_wp2_with fail
  go_loop [3, 10] (fun s i => ∃ k : Nat, k ≤ m.length ∧ i = .int .i64 k ∧ s = .int .i64 (manyT (m.take k))) (fun _ i => m.length - (intOf i).toNat)
  case atStart => exact ⟨0, Nat.zero_le _, rfl, rfl⟩
  case round =>
    obtain ⟨k, hk, rfl, rfl⟩ := hrel
    have hbk := HB.out k
    by_cases hlt : k < m.length
    · have hz : (k : Int) < (m.length : Int) := by omega
      obtain ⟨b, off, ak, ck, rfl, hck, _, _, hrow⟩ := HM.out k hlt
      have hlr := HL.out _ (List.getElem_mem hlt)
      have HR := Lib.hid hrow; clear hrow
      obtain ⟨u, hu⟩ : ∃ u, manyT (m.take k) = u := ⟨_, rfl⟩
      have hnx := manyT_take hlt
      rw [hu] at hbk hnx ⊢
      have HN := Lib.hid hnx; clear hnx hu
      go_wp2_with fail
      go_loop [3, 16] (fun s i => ∃ j : Nat, j ≤ m[k].length ∧ i = .int .i64 j ∧ s = .int .i64 (u + cntRow (m[k].take j) : Nat)) (fun _ i => m[k].length - (intOf i).toNat)
      case atStart => exact ⟨0, Nat.zero_le _, rfl, by simp [cntRow]⟩
      case round =>
        obtain ⟨j, hj, rfl, rfl⟩ := hrel
        have hcj := Nat.le_trans (cntRow_le (m[k].take j)) (List.length_take_le _ _)
        by_cases hjt : j < m[k].length
        · have hjz : (j : Int) < (m[k].length : Int) := by omega
          obtain ⟨b2, off2, rfl, hc2⟩ := HR.out j hjt
          have hst := cntRow_take hjt
          obtain ⟨v, hv⟩ : ∃ v, cntRow (m[k].take j) = v := ⟨_, rfl⟩
          rw [hv] at hst hcj ⊢
          unfold encB at hc2
          cases hf : m[k][j] with
          | true =>
            rw [hf] at hc2 hst
            have hs : cntRow (m[k].take (j + 1)) = v + 1 := hst
            have HS := Lib.hid hs; clear hs hst hf hv
            go_wp2_with fail
            go_round
            case rel => exact ⟨j + 1, by omega, by go_num, by rw [HS.out]; go_num⟩
            case measure => simp [intOf]; omega
          | false =>
            rw [hf] at hc2 hst
            have hs : cntRow (m[k].take (j + 1)) = v := hst
            have HS := Lib.hid hs; clear hs hst hf hv
            go_wp2_with fail
            go_round
            case rel => exact ⟨j + 1, by omega, by go_num, by rw [HS.out]⟩
            case measure => simp [intOf]; omega
        · have hjz : ¬ (j : Int) < (m[k].length : Int) := by omega
          have hjm : m[k].take j = m[k] := List.take_of_length_le (by omega)
          rw [hjm]
          clear hjm hcj
          go_wp2_with fail
          go_round
          case rel => exact ⟨k + 1, by omega, by go_num, by rw [HN.out]⟩
          case measure => simp [intOf]; omega
    · have hz : ¬ (k : Int) < (m.length : Int) := by omega
      have hkm : m.take k = m := List.take_of_length_le (by omega)
      rw [hkm]
      clear hkm hbk
      go_wp2_with fail
      go_ret
      exact ⟨rfl, rfl⟩
def smallM (t : List (List Int)) (k : Int) : List (List Bool) := if tabOk t then smallT t k else []
def SmallOut (t : List (List Int)) (k : Int) (w : World) (e : Ending) (w' : World) : Prop :=
  ∃ v vs, e = .returned (.tuple #[v, .bool (tabOk t)]) ∧ OwnB w' w.heap.size v vs (smallM t k) ∧ Ext w w'
theorem ownB_nil (w : World) (B : Nat) : OwnB w B (.slice none 0 0) [] [] :=
  ⟨rfl, World.ownsRow_nil _ _ _ _, fun k hk => by simp at hk, fun k l hk => by simp at hk, fun k hk => by simp at hk⟩
end Go.Proofs.Ytbnpgbkllglcbaa
