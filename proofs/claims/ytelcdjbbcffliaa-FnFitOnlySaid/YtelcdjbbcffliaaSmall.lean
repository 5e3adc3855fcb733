/- Masks of small cells, and how many flags are set. -/
import Derived.Test.YtelcdjbbcffliaaTabEqB
import Derived.Test.YtelcdjbbcffliaaCells
namespace Go.Proofs.Ytelcdjbbcffliaa
open Go.RowKit Go.DC
def smallB (k z : Int) : Bool := decide (0 < z) && decide (z < k)
def smallT (t : List (List Int)) (k : Int) : List (List Bool) := t.map fun r => r.map (smallB k)
theorem smallB_cases (k z : Int) : (0 < z ∧ z < k ∧ smallB k z = true) ∨ (0 < z ∧ ¬ z < k ∧ smallB k z = false) ∨ (¬ 0 < z ∧ smallB k z = false) := by
  unfold smallB
  by_cases h1 : 0 < z
  · by_cases h2 : z < k
    · exact .inl ⟨h1, h2, by simp [h1, h2]⟩
    · exact .inr (.inl ⟨h1, h2, by simp [h2]⟩)
  · exact .inr (.inr ⟨h1, by simp [h1]⟩)
theorem smallT_len (t : List (List Int)) (k : Int) : (smallT t k).length = t.length := by simp [smallT]
theorem smallT_row {t : List (List Int)} {k : Int} {i : Nat} (h : i < t.length) (h' : i < (smallT t k).length) : (smallT t k)[i] = t[i].map (smallB k) := by simp [smallT]
theorem smallT_take (t : List (List Int)) (b : Int) {k : Nat} (h : k < t.length) : smallT (t.take (k + 1)) b = smallT (t.take k) b ++ [t[k].map (smallB b)] := by
  unfold smallT
  rw [List.take_succ_eq_append_getElem h, List.map_append]; rfl
theorem map_take1 {α β : Type} (f : α → β) {l : List α} {j : Nat} (h : j < l.length) : (l.take (j + 1)).map f = (l.take j).map f ++ [f l[j]] := by
  rw [List.take_succ_eq_append_getElem h, List.map_append]; rfl
def cntRow (r : List Bool) : Nat := (r.filter id).length
def manyT (m : List (List Bool)) : Nat := (m.map cntRow).sum
theorem cntRow_take {r : List Bool} {j : Nat} (h : j < r.length) : cntRow (r.take (j + 1)) = cntRow (r.take j) + (if r[j] then 1 else 0) := by
  unfold cntRow
  rw [List.take_succ_eq_append_getElem h, List.filter_append, List.length_append]
  cases r[j] <;> simp
theorem manyT_take {m : List (List Bool)} {k : Nat} (h : k < m.length) : manyT (m.take (k + 1)) = manyT (m.take k) + cntRow m[k] := by
  unfold manyT
  rw [List.take_succ_eq_append_getElem h, List.map_append, List.sum_append]; simp
theorem cntRow_le (r : List Bool) : cntRow r ≤ r.length := List.length_filter_le _ _
theorem manyT_le {m : List (List Bool)} {n : Nat} (h : ∀ x ∈ m, x.length ≤ n) : manyT m ≤ m.length * n := by
  induction m with
  | nil => simp [manyT]
  | cons r m ih =>
    have h1 := ih (fun x hx => h x (by simp [hx]))
    have h2 := cntRow_le r
    have h3 := h r (by simp)
    simp only [manyT, List.map_cons, List.sum_cons, List.length_cons, Nat.add_mul] at h1 ⊢
    omega
def smallM (t : List (List Int)) (k : Int) : List (List Bool) := if tabOk t then smallT t k else []
def SmallOut (t : List (List Int)) (k : Int) (w : World) (e : Ending) (w' : World) : Prop :=
  ∃ v vs, e = .returned (.tuple #[v, .bool (tabOk t)]) ∧ OwnB w' w.heap.size v vs (smallM t k) ∧ Ext w w'
theorem ownB_nil (w : World) (B : Nat) : OwnB w B (.slice none 0 0) [] [] :=
  ⟨rfl, World.ownsRow_nil _ _ _ _, fun k hk => by simp at hk, fun k l hk => by simp at hk, fun k hk => by simp at hk⟩
end Go.Proofs.Ytelcdjbbcffliaa
