/- Rectangles as functions of row and column: plain words. -/
import Derived.Test.YtelcdjbbcffliaaTab
namespace Go.DC
section
variable {α : Type}
/-- The table of h rows and m columns with cell g i j. -/
def tabOf (h m : Nat) (g : Nat → Nat → α) : List (List α) := (List.range h).map fun i => (List.range m).map fun j => g i j
def upd (g : Nat → Nat → α) (i j : Nat) (z : α) : Nat → Nat → α := fun i' j' => if i' = i ∧ j' = j then z else g i' j'
def get (d : α) (t : List (List α)) (i j : Nat) : α := (t.getD i []).getD j d

theorem tabOf_length (h m : Nat) (g : Nat → Nat → α) : (tabOf h m g).length = h := by simp [tabOf]
theorem tabOf_row (h m : Nat) (g : Nat → Nat → α) {i : Nat} (hi : i < (tabOf h m g).length) : (tabOf h m g)[i] = (List.range m).map fun j => g i j := by simp [tabOf]
theorem tabOf_rowlen (h m : Nat) (g : Nat → Nat → α) {i : Nat} (hi : i < (tabOf h m g).length) : (tabOf h m g)[i].length = m := by rw [tabOf_row]; simp
theorem tabOf_cell (h m : Nat) (g : Nat → Nat → α) {i j : Nat} (hi : i < (tabOf h m g).length) (hj : j < (tabOf h m g)[i].length) : (tabOf h m g)[i][j] = g i j := by simp [tabOf]
theorem tabOf_congr {h m : Nat} {g f : Nat → Nat → α} (e : ∀ i j, i < h → j < m → g i j = f i j) : tabOf h m g = tabOf h m f := by
  unfold tabOf
  apply List.map_congr_left
  intro i hi
  apply List.map_congr_left
  intro j hj
  exact e i j (List.mem_range.1 hi) (List.mem_range.1 hj)
theorem tabOf_inj {h m : Nat} {g f : Nat → Nat → α} (e : tabOf h m g = tabOf h m f) : ∀ i j, i < h → j < m → g i j = f i j := fun i j hi hj => by
  have h1 : i < (tabOf h m g).length := by rw [tabOf_length]; exact hi
  have h2 : i < (tabOf h m f).length := by rw [tabOf_length]; exact hi
  have h3 : j < (tabOf h m g)[i].length := by rw [tabOf_rowlen]; exact hj
  have h4 : j < (tabOf h m f)[i].length := by rw [tabOf_rowlen]; exact hj
  rw [← tabOf_cell h m g h1 h3, ← tabOf_cell h m f h2 h4]
  congr 1
  simp [e]
theorem tabOf_set {h m : Nat} {g : Nat → Nat → α} {i j : Nat} (z : α) (hi : i < (tabOf h m g).length) : (tabOf h m g).set i ((tabOf h m g)[i].set j z) = tabOf h m (upd g i j z) := by
  apply List.ext_getElem
  · simp [tabOf]
  · intro k h1 h2
    have hk : k < h := by simpa [tabOf] using h2
    rw [List.getElem_set]
    split
    · rename_i e
      subst e
      apply List.ext_getElem
      · simp [tabOf]
      · intro l h3 h4
        have hl : l < m := by simpa [tabOf] using h4
        rw [List.getElem_set]
        simp only [tabOf, List.getElem_map, List.getElem_range, upd]
        split
        · rename_i e; subst e; simp
        · rename_i e; rw [if_neg (fun h => e h.2.symm)]
    · rename_i e
      simp only [tabOf, List.getElem_map, List.getElem_range, upd]
      apply List.map_congr_left
      intro l _
      rw [if_neg (fun h => e h.1.symm)]
theorem get_tabOf {d : α} {h m : Nat} (g : Nat → Nat → α) {i j : Nat} (hi : i < h) (hj : j < m) : get d (tabOf h m g) i j = g i j := by
  simp [get, tabOf, hi, hj]
/-- All rows have m cells. -/
def Rect (t : List (List α)) (h m : Nat) : Prop := t.length = h ∧ ∀ k (hk : k < t.length), t[k].length = m
theorem Rect.eq {t : List (List α)} {h m : Nat} (d : α) (r : Rect t h m) : t = tabOf h m (get d t) := by
  apply List.ext_getElem
  · simp [tabOf, r.1]
  · intro i h1 h2
    apply List.ext_getElem
    · rw [r.2 i h1, tabOf_rowlen]
    · intro j h3 h4
      rw [tabOf_cell]
      simp [get, h1, h3]
theorem rect_tabOf (h m : Nat) (g : Nat → Nat → α) : Rect (tabOf h m g) h m := ⟨tabOf_length h m g, fun _ hk => tabOf_rowlen h m g hk⟩
theorem replicate_tab (h m : Nat) (z : α) : List.replicate h (List.replicate m z) = tabOf h m (fun _ _ => z) := by
  apply List.ext_getElem
  · simp [tabOf]
  · intro i h1 h2
    apply List.ext_getElem
    · simp [tabOf]
    · intro j h3 h4
      simp [tabOf]
theorem get_cell {d : α} {t : List (List α)} {i j : Nat} (hi : i < t.length) (hj : j < t[i].length) : get d t i j = t[i][j] := by
  simp [get, hi, hj]

variable {enc : α → Value} {te ts : TypeId} {w : World} {B : Nat} {v : Value} {vs : List Value}
/-- What is needed to read and to write cell (i, j) of a rectangle of one's own. -/
theorem OwnT.atC {h m i j : Nat} {g : Nat → Nat → α} (ow : OwnT enc te ts w B v vs (tabOf h m g)) (hi : i < h) (hj : j < m) :
    ∃ o c b ck, v = .slice (some ⟨o, 0, none⟩) h c ∧ B ≤ o ∧ w.cell? ⟨o, i, none⟩ = some (.slice (some ⟨b, 0, none⟩) m ck) ∧ B ≤ b ∧ b ≠ o ∧ vs[i]? = some (.slice (some ⟨b, 0, none⟩) m ck)
      ∧ w.cell? ⟨b, j, none⟩ = some (enc (g i j)) ∧ w.frozen? ⟨b, j, none⟩ = false ∧ w.frozen? ⟨o, i, none⟩ = false := by
  have h1 : i < (tabOf h m g).length := by rw [tabOf_length]; exact hi
  have h3 : j < (tabOf h m g)[i].length := by rw [tabOf_rowlen]; exact hj
  obtain ⟨o, c, b, ck, e1, e2, e3, e4, e5, e6, e7, e8, e9⟩ := ow.at h1 h3
  rw [tabOf_length] at e1
  rw [tabOf_rowlen] at e3 e6
  rw [tabOf_cell] at e7
  exact ⟨o, c, b, ck, e1, e2, e3, e4, e5, e6, e7, e8, e9⟩
theorem OwnT.setC {h m i j b n ck : Nat} {g : Nat → Nat → α} (ow : OwnT enc te ts w B v vs (tabOf h m g)) (hi : i < h) (hb : vs[i]? = some (.slice (some ⟨b, 0, none⟩) n ck)) (z : α) :
    OwnT enc te ts (w.setCell ⟨b, j, none⟩ (enc z)) B v vs (tabOf h m (upd g i j z)) := by
  have h1 : i < (tabOf h m g).length := by rw [tabOf_length]; exact hi
  have := ow.set (j := j) h1 hb z
  rwa [tabOf_set] at this
/-- A cell of a table that is read. -/
theorem TRows.atC {a : Option Addr} {t : List (List α)} {h m i j : Nat} (d : α) (hr : TRows enc w a t) (r : Rect t h m) (hi : i < h) (hj : j < m) :
    ∃ b off b2 off2 ck, a = some ⟨b, off, none⟩ ∧ w.cell? ⟨b, off + i, none⟩ = some (.slice (some ⟨b2, off2, none⟩) m ck) ∧ w.cell? ⟨b2, off2 + j, none⟩ = some (enc (get d t i j)) := by
  have h1 : i < t.length := by rw [r.1]; exact hi
  obtain ⟨b, off, ak, ck, ha, hc, _, _, hrow⟩ := hr i h1
  have h3 : j < t[i].length := by rw [r.2 i h1]; exact hj
  obtain ⟨b2, off2, rfl, hc2⟩ := hrow j h3
  rw [r.2 i h1] at hc
  exact ⟨b, off, b2, off2, ck, ha, hc, by rw [hc2, get_cell h1 h3]⟩
theorem TRows.rowC {a : Option Addr} {t : List (List α)} {h m i : Nat} (hr : TRows enc w a t) (r : Rect t h m) (hi : i < h) :
    ∃ b off ak ck, a = some ⟨b, off, none⟩ ∧ w.cell? ⟨b, off + i, none⟩ = some (.slice ak m ck) := by
  have h1 : i < t.length := by rw [r.1]; exact hi
  obtain ⟨b, off, ak, ck, ha, hc, _, _, _⟩ := hr i h1
  rw [r.2 i h1] at hc
  exact ⟨b, off, ak, ck, ha, hc⟩
end
end Go.DC
