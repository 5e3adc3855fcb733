/- Tables as functions: plain words on what a valid table is. -/
import Derived.Test.YtelcdjbbcffliaaDiff
namespace Go.Proofs.Ytelcdjbbcffliaa
open Go.RowKit Go.DC
theorem wide_tabOf {h m : Nat} (g : Nat → Nat → Int) (hh : 0 < h) : wide (tabOf h m g) = m := by
  rw [wide_eq (by rw [tabOf_length]; exact hh), tabOf_rowlen]
theorem shape_tabOf {α : Type} (h m : Nat) (g : Nat → Nat → α) : shape (tabOf h m g) = List.replicate h m := by
  apply List.ext_getElem
  · simp [shape, tabOf]
  · intro i h1 h2; simp [shape, tabOf]
/-- The cells of a valid table. -/
def InT (h m : Nat) (g : Nat → Nat → Int) : Prop := (1 ≤ h ∧ h ≤ 4 ∧ 1 ≤ m ∧ m ≤ 4) ∧ ∀ i j, i < h → j < m → 0 ≤ g i j ∧ g i j ≤ 99
theorem tabOk_tabOf {h m : Nat} {g : Nat → Nat → Int} : tabOk (tabOf h m g) = true ↔ InT h m g := by
  constructor
  · intro hh
    obtain ⟨_, h1, h2, h3, h4, h5⟩ := tabOk_rect hh
    rw [tabOf_length] at h1 h2 h5
    rw [wide_tabOf g (by omega)] at h3 h4 h5
    exact ⟨⟨h1, h2, h3, h4⟩, fun i j hi hj => by have := h5 i j hi hj; rwa [get_tabOf g hi hj] at this⟩
  · rintro ⟨⟨h1, h2, h3, h4⟩, h5⟩
    unfold tabOk
    rw [wide_tabOf g (by omega), tabOf_length]
    simp only [Bool.and_eq_true, decide_eq_true_eq, List.all_eq_true]
    refine ⟨⟨⟨⟨h1, h2⟩, h3⟩, h4⟩, fun r hr => ?_⟩
    obtain ⟨k, hk, rfl⟩ := List.getElem_of_mem hr
    have hk' : k < h := by rwa [tabOf_length] at hk
    simp only [rowOk, Bool.and_eq_true, beq_iff_eq, List.all_eq_true, cellOk, decide_eq_true_eq]
    refine ⟨tabOf_rowlen h m g hk, fun z hz => ?_⟩
    obtain ⟨j, hj, rfl⟩ := List.getElem_of_mem hz
    rw [tabOf_cell]
    rw [tabOf_rowlen] at hj
    exact h5 k j hk' hj
/-- A valid table is one of a function. -/
theorem tabOk_form {t : List (List Int)} (h : tabOk t = true) : t = tabOf t.length (wide t) (get 0 t) ∧ InT t.length (wide t) (get 0 t) := by
  obtain ⟨r, h1, h2, h3, h4, h5⟩ := tabOk_rect h
  exact ⟨r.eq 0, ⟨h1, h2, h3, h4⟩, h5⟩
theorem tabOk_ex {t : List (List Int)} (h : tabOk t = true) : ∃ n m g, t = tabOf n m g ∧ InT n m g := ⟨_, _, _, tabOk_form h⟩
theorem subT_tabOf {h m : Nat} (f g : Nat → Nat → Int) (hh : 0 < h) : subT (tabOf h m f) (tabOf h m g) = tabOf h m (fun i j => f i j - g i j) := by
  unfold subT
  rw [wide_tabOf f hh, tabOf_length]
  exact tabOf_congr fun i j hi hj => by rw [get_tabOf f hi hj, get_tabOf g hi hj]
theorem shape_tabOf_eq {α β : Type} {h m h' m' : Nat} {f : Nat → Nat → α} {g : Nat → Nat → β} (e : shape (tabOf h m f) = shape (tabOf h' m' g)) (hh : 0 < h) : h = h' ∧ m = m' := by
  rw [shape_tabOf, shape_tabOf] at e
  have hl : h = h' := by simpa using congrArg List.length e
  subst hl
  obtain ⟨k, rfl⟩ : ∃ k, h = k + 1 := ⟨h - 1, by omega⟩
  rw [List.replicate_succ, List.replicate_succ] at e
  exact ⟨rfl, (List.cons.inj e).1⟩
theorem diffOk_tabOf {h m : Nat} {f g : Nat → Nat → Int} : diffOk (tabOf h m f) (tabOf h m g) = true ↔ InT h m f ∧ InT h m g ∧ InT h m (fun i j => f i j - g i j) := by
  unfold diffOk
  simp only [Bool.and_eq_true, decide_eq_true_eq, shape_tabOf, tabOk_tabOf]
  constructor
  · rintro ⟨⟨⟨h1, h2⟩, _⟩, h4⟩
    rw [subT_tabOf f g (by have := h1.1; omega), tabOk_tabOf] at h4
    exact ⟨h1, h2, h4⟩
  · rintro ⟨h1, h2, h3⟩
    refine ⟨⟨⟨h1, h2⟩, trivial⟩, ?_⟩
    rw [subT_tabOf f g (by have := h1.1; omega), tabOk_tabOf]
    exact h3
theorem diffOk_ex {a b : List (List Int)} (h : diffOk a b = true) : ∃ n m f g, a = tabOf n m f ∧ b = tabOf n m g ∧ InT n m f ∧ InT n m g ∧ InT n m (fun i j => f i j - g i j) ∧ diffT a b = tabOf n m (fun i j => f i j - g i j) := by
  have h0 := h
  unfold diffOk at h
  simp only [Bool.and_eq_true, decide_eq_true_eq] at h
  obtain ⟨⟨⟨h1, h2⟩, h3⟩, h4⟩ := h
  obtain ⟨n, m, f, rfl, hf⟩ := tabOk_ex h1
  obtain ⟨n', m', g, rfl, hg⟩ := tabOk_ex h2
  obtain ⟨rfl, rfl⟩ := shape_tabOf_eq h3 (by have := hf.1; omega)
  have hs := subT_tabOf (m := m) f g (by have := hf.1; omega : 0 < n)
  refine ⟨n, m, f, g, rfl, rfl, hf, hg, ?_, ?_⟩
  · rw [hs, tabOk_tabOf] at h4; exact h4
  · unfold diffT; rw [if_pos h0, hs]
/-- The difference to the difference is the second table. -/
theorem diff_twice {a b : List (List Int)} (h : diffOk a b = true) : diffOk a (diffT a b) = true ∧ diffT a (diffT a b) = b := by
  obtain ⟨n, m, f, g, rfl, rfl, hf, hg, hd, e⟩ := diffOk_ex h
  have hn : 0 < n := by have := hf.1; omega
  have hok : diffOk (tabOf n m f) (tabOf n m fun i j => f i j - g i j) = true := by
    rw [diffOk_tabOf]
    refine ⟨hf, hd, ?_⟩
    simpa [Int.sub_sub_self] using hg
  rw [e]
  refine ⟨hok, ?_⟩
  unfold diffT
  rw [if_pos hok, subT_tabOf _ _ hn]
  exact tabOf_congr fun i j _ _ => by omega
end Go.Proofs.Ytelcdjbbcffliaa
