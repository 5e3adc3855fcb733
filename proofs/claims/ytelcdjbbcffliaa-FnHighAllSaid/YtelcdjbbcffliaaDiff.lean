/- The program's difference of two tables. -/
import Derived.Test.YtelcdjbbcffliaaCellsLaw
import Derived.Test.YtelcdjbbcffliaaRoundKit
import Derived.Test.YtelcdjbbcffliaaShape
import Derived.Test.YtelcdjbbcffliaaTabCopyI
namespace Go.Proofs.Ytelcdjbbcffliaa
open Go.RowKit Go.DC Go.Shelf
attribute [local go_sem] Oper.semAt_some
/-- How often a cell is among some. -/
def cnt {h m : Nat} (pre : List (Cell h m)) (i j : Nat) : Nat := (pre.filter fun x => x.1.1 == i && x.1.2 == j).length
theorem cnt_nil {h m : Nat} (i j : Nat) : cnt ([] : List (Cell h m)) i j = 0 := rfl
theorem cnt_append {h m : Nat} (p q : List (Cell h m)) (i j : Nat) : cnt (p ++ q) i j = cnt p i j + cnt q i j := by simp [cnt]
theorem cnt_one {h m : Nat} (x : Cell h m) (i j : Nat) : cnt [x] i j = if i = x.1.1 ∧ j = x.1.2 then 1 else 0 := by
  unfold cnt
  by_cases e : i = x.1.1 ∧ j = x.1.2
  · rw [if_pos e, List.filter_cons_of_pos (by simp [e.1, e.2])]; rfl
  · rw [if_neg e, List.filter_cons_of_neg (by simp; intro h1 h2; exact e ⟨h1.symm, h2.symm⟩)]; rfl
theorem cnt_le {h m : Nat} (p : List (Cell h m)) (i j : Nat) : cnt p i j ≤ p.length := List.length_filter_le _ _
theorem cnt_row {h m k : Nat} (hk : k < h) (i j : Nat) : ∀ (j' : Nat) (hj : j' ≤ m), cnt (rowCells h m k j' hk hj) i j = if i = k ∧ j < j' then 1 else 0
  | 0, hj => by rw [rowCells_zero, cnt_nil, if_neg (by omega)]
  | j' + 1, hj => by
    rw [rowCells_succ, cnt_append, cnt_row hk i j j' (by omega), cnt_one]
    simp only
    repeat' split
    all_goals omega
theorem cnt_first {h m : Nat} (i j : Nat) (hj : j < m) : ∀ (k : Nat) (hk : k ≤ h), cnt (firstCells h m k hk) i j = if i < k then 1 else 0
  | 0, _ => by rw [firstCells, cnt_nil, if_neg (by omega)]
  | k + 1, hk => by
    rw [firstCells, cnt_append, cnt_first i j hj k (by omega), cnt_row]
    repeat' split
    all_goals omega
theorem cnt_all {h m i j : Nat} (hi : i < h) (hj : j < m) : cnt (allCells h m) i j = 1 := by
  unfold allCells; rw [cnt_first i j hj, if_pos hi]

theorem tabOk_rect {t : List (List Int)} (h : tabOk t = true) : Rect t t.length (wide t) ∧ 1 ≤ t.length ∧ t.length ≤ 4 ∧ 1 ≤ wide t ∧ wide t ≤ 4 ∧ ∀ i j, i < t.length → j < wide t → 0 ≤ get 0 t i j ∧ get 0 t i j ≤ 99 := by
  unfold tabOk at h
  simp only [Bool.and_eq_true, decide_eq_true_eq, List.all_eq_true] at h
  obtain ⟨⟨⟨⟨h1, h2⟩, h3⟩, h4⟩, h5⟩ := h
  have hr : ∀ k (hk : k < t.length), t[k].length = wide t ∧ ∀ z ∈ t[k], 0 ≤ z ∧ z ≤ 99 := fun k hk => by
    have := h5 t[k] (List.getElem_mem hk)
    simp only [rowOk, Bool.and_eq_true, beq_iff_eq, List.all_eq_true, cellOk, decide_eq_true_eq] at this
    exact this
  refine ⟨⟨rfl, fun k hk => (hr k hk).1⟩, h1, h2, h3, h4, fun i j hi hj => ?_⟩
  have hj' : j < t[i].length := by rw [(hr i hi).1]; exact hj
  rw [get_cell hi hj']
  exact (hr i hi).2 _ (List.getElem_mem hj')

/-- The first table minus the second one. -/
def subT (a b : List (List Int)) : List (List Int) := tabOf a.length (wide a) (fun i j => get 0 a i j - get 0 b i j)
def diffOk (a b : List (List Int)) : Bool := tabOk a && tabOk b && decide (shape a = shape b) && tabOk (subT a b)
def diffT (a b : List (List Int)) : List (List Int) := if diffOk a b then subT a b else []
theorem diffT_len (a b : List (List Int)) : (diffT a b).length ≤ 4 := by
  unfold diffT
  split
  · rename_i h
    unfold diffOk at h
    simp only [Bool.and_eq_true] at h
    unfold subT
    rw [tabOf_length]
    exact (tabOk_rect h.1.1.1).2.2.1
  · simp
/-- What a difference hands back. -/
def DiffOut (a b : List (List Int)) (w : World) (e : Ending) (w' : World) : Prop :=
  ∃ v vs, e = .returned (.tuple #[v, .bool (diffOk a b)]) ∧ OwnI w' w.heap.size v vs (diffT a b) ∧ Ext w w'
theorem own_nil (w : World) (B : Nat) : OwnI w B (.slice none 0 0) [] [] :=
  ⟨rfl, World.ownsRow_nil _ _ _ _, fun k hk => by simp at hk, fun k l hk => by simp at hk, fun k hk => by simp at hk⟩
theorem shape_rect {a b : List (List Int)} (h : tabOk a = true) (e : shape a = shape b) : Rect b a.length (wide a) := by
  have hl := shape_len e
  refine ⟨hl.symm, fun k hk => ?_⟩
  have hk' : k < a.length := by omega
  have e1 : (shape a)[k]? = some a[k].length := by simp [shape, hk']
  have e2 : (shape b)[k]? = some b[k].length := by simp [shape, hk]
  rw [e, e2] at e1
  rw [Option.some.inj e1]
  exact (tabOk_rect h).1.2 k hk'

end Go.Proofs.Ytelcdjbbcffliaa
