/- Sums of rows and of columns. -/
import Derived.Test.YtjkkedoncdeofaaCells
import Derived.Test.YtjkkedoncdeofaaFlow
import Derived.Sort.CutIn
/- Sums of rows and of columns. -/
namespace Go.Proofs.Ytjkkedoncdeofaa
open Go.RowKit Go.DC Go.Shelf
attribute [local go_sem] Oper.semAt_some
def SumsOut (h m : Nat) (f : Nat → Nat → Int) (w : World) (e : Ending) (w' : World) : Prop :=
  ∃ v1 v2, e = .returned (.tuple #[v1, v2]) ∧ w'.ownsRow w.heap.size 3 1 v1 h ((List.range h).map fun i => encI (sumN m (f i))) ∧ w'.ownsRow w.heap.size 3 1 v2 m ((List.range m).map fun j => encI (sumN h (fun i => f i j))) ∧ Ext w w'
theorem heap4 (w : World) (A B C D : Obj) : (((((w.alloc A).alloc B).alloc C).alloc D).drew).heap[w.heap.size]? = some A ∧ (((((w.alloc A).alloc B).alloc C).alloc D).drew).heap[w.heap.size + 1]? = some B
    ∧ (((((w.alloc A).alloc B).alloc C).alloc D).drew).heap[w.heap.size + 1 + 1]? = some C ∧ (((((w.alloc A).alloc B).alloc C).alloc D).drew).heap[w.heap.size + 1 + 1 + 1]? = some D := by
  have h1 : (w.alloc A).heap[w.heap.size]? = some A := heap_alloc_new w A
  have h2 : ((w.alloc A).alloc B).heap[w.heap.size + 1]? = some B := by have := heap_alloc_new (w.alloc A) B; rwa [World.size_alloc] at this
  have h3 : (((w.alloc A).alloc B).alloc C).heap[w.heap.size + 1 + 1]? = some C := by have := heap_alloc_new ((w.alloc A).alloc B) C; rwa [World.size_alloc, World.size_alloc] at this
  have h4 : ((((w.alloc A).alloc B).alloc C).alloc D).heap[w.heap.size + 1 + 1 + 1]? = some D := by have := heap_alloc_new (((w.alloc A).alloc B).alloc C) D; rwa [World.size_alloc, World.size_alloc, World.size_alloc] at this
  refine ⟨?_, ?_, ?_, h4⟩
  · exact (heap_alloc_old _ D (by simp only [World.size_alloc]; omega)).trans ((heap_alloc_old _ C (by simp only [World.size_alloc]; omega)).trans ((heap_alloc_old _ B (by simp only [World.size_alloc]; omega)).trans h1))
  · exact (heap_alloc_old _ D (by simp only [World.size_alloc]; omega)).trans ((heap_alloc_old _ C (by simp only [World.size_alloc]; omega)).trans h2)
  · exact (heap_alloc_old _ D (by simp)).trans h3
/-- Two new rows of zeros, each in a box. -/
structure Two (T I : TypeId) (h m : Nat) (W0 wx : World) (p4 p5 r4 r5 : Nat) : Prop where
  ge4 : W0.heap.size ≤ p4
  ge5 : W0.heap.size ≤ p5
  geR : W0.heap.size ≤ r4
  geC : W0.heap.size ≤ r5
  n45 : p4 ≠ p5
  n4r : p4 ≠ r4
  n4c : p4 ≠ r5
  n5r : p5 ≠ r4
  n5c : p5 ≠ r5
  nrc : r4 ≠ r5
  b4 : Box wx p4 T (.slice (some ⟨r4, 0, none⟩) h h)
  b5 : Box wx p5 T (.slice (some ⟨r5, 0, none⟩) m m)
  rows : wx.heap[r4]? = some (.cells (madeCells #[.int .i64 0] h) I)
  cols : wx.heap[r5]? = some (.cells (madeCells #[.int .i64 0] m) I)
  ext : Ext W0 wx
/-- A sum over some cells. -/
def psum {h m : Nat} (g : Nat → Nat → Int) (pre : List (Cell h m)) : Int := (pre.map fun x => g x.1.1 x.1.2).sum
theorem psum_nil {h m : Nat} (g : Nat → Nat → Int) : psum g ([] : List (Cell h m)) = 0 := rfl
theorem psum_app {h m : Nat} (g : Nat → Nat → Int) (p q : List (Cell h m)) : psum g (p ++ q) = psum g p + psum g q := by simp [psum]
theorem psum_one {h m : Nat} (g : Nat → Nat → Int) (x : Cell h m) : psum g [x] = g x.1.1 x.1.2 := by simp [psum]
theorem psum_row {h m k : Nat} (g : Nat → Nat → Int) (hk : k < h) : ∀ (j : Nat) (hj : j ≤ m), psum g (rowCells h m k j hk hj) = sumN j (g k)
  | 0, hj => by rw [rowCells_zero]; rfl
  | j + 1, hj => by rw [rowCells_succ, psum_app, psum_row g hk j (by omega), psum_one]; rfl
theorem psum_first {h m : Nat} (g : Nat → Nat → Int) : ∀ (k : Nat) (hk : k ≤ h), psum g (firstCells h m k hk) = sumN k (fun i => sumN m (g i))
  | 0, _ => rfl
  | k + 1, hk => by rw [firstCells, psum_app, psum_first g k (by omega), psum_row]; rfl
theorem psum_all {h m : Nat} (g : Nat → Nat → Int) : psum g (allCells h m) = sumN h (fun i => sumN m (g i)) := psum_first g h _
theorem psum_bound {h m : Nat} {g : Nat → Nat → Int} {B : Int} (hg : ∀ i j, i < h → j < m → -B ≤ g i j ∧ g i j ≤ B) : ∀ pre : List (Cell h m), -(B * pre.length) ≤ psum g pre ∧ psum g pre ≤ B * pre.length
  | [] => by simp [psum]
  | x :: pre => by
    have h1 := psum_bound hg pre
    have h2 := hg x.1.1 x.1.2 x.2.1 x.2.2
    have e : psum g (x :: pre) = g x.1.1 x.1.2 + psum g pre := by simp [psum]
    rw [e, List.length_cons, Int.natCast_succ, Int.mul_add]
    omega
def rowPart (f : Nat → Nat → Int) (i : Nat) : Nat → Nat → Int := fun k l => if k = i then f k l else 0
def colPart (f : Nat → Nat → Int) (j : Nat) : Nat → Nat → Int := fun k l => if l = j then f k l else 0
theorem rowPart_all {h m i : Nat} (f : Nat → Nat → Int) (hi : i < h) : psum (rowPart f i) (allCells h m) = sumN m (f i) := by
  rw [psum_all, sumN_single (k := i) hi (fun k _ hk => by unfold rowPart; rw [sumN_congr (g := fun _ => 0) (fun l _ => if_neg hk), sumN_zero])]
  exact sumN_congr fun l _ => if_pos rfl
theorem colPart_all {h m j : Nat} (f : Nat → Nat → Int) (hj : j < m) : psum (colPart f j) (allCells h m) = sumN h (fun i => f i j) := by
  rw [psum_all]
  refine sumN_congr fun i _ => ?_
  rw [sumN_single (f := colPart f j i) (k := j) hj (fun l _ hl => if_neg hl)]
  exact if_pos rfl
def rowOf (h : Nat) (F : Nat → Int) : List Value := (List.range h).map fun i => encI (F i)
theorem rowOf_len (h : Nat) (F : Nat → Int) : (rowOf h F).length = h := by simp [rowOf]
theorem rowOf_at {h i : Nat} (F : Nat → Int) (hi : i < h) : (rowOf h F)[i]? = some (encI (F i)) := by simp [rowOf, hi]
theorem rowOf_congr {h : Nat} {F G : Nat → Int} (e : ∀ i, i < h → F i = G i) : rowOf h F = rowOf h G := by
  unfold rowOf
  apply List.map_congr_left
  intro i hi
  rw [e i (List.mem_range.1 hi)]
theorem rowOf_set {h i : Nat} (F G : Nat → Int) (z : Int) (e : ∀ k, k < h → G k = if k = i then z else F k) : (rowOf h F).set i (encI z) = rowOf h G := by
  apply List.ext_getElem
  · simp [rowOf]
  · intro k h1 h2
    have hk : k < h := by simpa [rowOf] using h2
    rw [List.getElem_set]
    simp only [rowOf, List.getElem_map, List.getElem_range]
    rw [e k hk]
    by_cases x : i = k
    · rw [if_pos x, if_pos x.symm]
    · rw [if_neg x, if_neg (fun y => x y.symm)]
theorem own_zeros {I : TypeId} {w : World} {B g n : Nat} (hg : w.heap[g]? = some (.cells (madeCells #[.int .i64 0] n) I)) (hB : B ≤ g) (hn : n ≤ 9223372036854775807) : w.ownsRow B I 1 (.slice (some ⟨g, 0, none⟩) n n) n (rowOf n fun _ => 0) := by
  refine ⟨by simp [rowOf], .inr ⟨g, n, _, rfl, hB, hg, Nat.le_refl _, by unfold maxLen; omega, by simp [size_madeCells], ?_⟩⟩
  rw [toList_madeCells_one]
  simp only [Nat.mul_one, List.take_of_length_le, List.length_replicate, Nat.le_refl]
  apply List.ext_getElem
  · simp [rowOf]
  · intro i h1 h2; simp [rowOf]
end Go.Proofs.Ytjkkedoncdeofaa

/- Totals. -/
namespace Go.Proofs.Ytjkkedoncdeofaa
open Go.RowKit Go.DC Go.Shelf
attribute [local go_sem] Oper.semAt_some
def totT (t : List (List Int)) : Int := sumN t.length (fun i => sumN (wide t) (get 0 t i))
def totalOf (t : List (List Int)) : Int := if tabOk t then totT t else -1
theorem rowOf_eq (h : Nat) (F : Nat → Int) : rowOf h F = ((List.range h).map F).map encI := by simp [rowOf]
end Go.Proofs.Ytjkkedoncdeofaa
