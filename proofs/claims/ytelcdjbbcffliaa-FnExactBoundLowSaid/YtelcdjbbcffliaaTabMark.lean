/- Marks that the laws lay into tables and look for again. -/
import Derived.Test.YtelcdjbbcffliaaTabEqI
import Derived.Test.YtelcdjbbcffliaaOwn
import Derived.Test.YtelcdjbbcffliaaTabEqB
/- Marks that the laws lay into tables and look for again. -/
namespace Go.Proofs.Ytelcdjbbcffliaa
open Go.RowKit Go.DC
def mkI (z : Int) : Int := z
def markRowI (k : Int) (n : Nat) : List Int := (List.range n).map fun (i : Nat) => mkI (k + i)
def markTI (k : Int) : List (List Int) → List (List Int)
  | [] => []
  | r :: t => markRowI k r.length :: markTI (k + r.length) t
theorem markRowI_length (k : Int) (n : Nat) : (markRowI k n).length = n := by simp [markRowI]
theorem markTI_length (k : Int) (t : List (List Int)) : (markTI k t).length = t.length := by
  induction t generalizing k with
  | nil => rfl
  | cons r t ih => simp [markTI, ih]
theorem markTI_take (k : Int) (t : List (List Int)) : ∀ i (h : i < t.length), markTI k (t.take (i + 1)) = markTI k (t.take i) ++ [markRowI (k + sizeI (t.take i)) t[i].length] := by
  induction t generalizing k with
  | nil => intro i h; simp at h
  | cons r t ih =>
    intro i h
    cases i with
    | zero => simp [markTI, sizeI]
    | succ i =>
      have := ih (k + r.length) i (by simpa using h)
      simp only [List.take_succ_cons, markTI, List.cons_append, List.getElem_cons_succ] at this ⊢
      rw [this]
      simp only [sizeI, List.map_cons, List.sum_cons, List.cons.injEq, true_and]
      congr 2
      congr 1
      omega
theorem markTI_take_eq (k : Int) (t : List (List Int)) (j : Nat) : markTI k (t.take j) = (markTI k t).take j := by
  induction t generalizing k j with
  | nil => simp [markTI]
  | cons r t ih =>
    cases j with
    | zero => simp [markTI]
    | succ j => simp [markTI, ih]
theorem mix_at (k : Int) (t : List (List Int)) (j l : Nat) (hj : j ≤ t.length) : (markTI k (t.take j) ++ t.drop j)[l]? = if l < j then (markTI k t)[l]? else t[l]? := by
  have hl : (markTI k (t.take j)).length = j := by rw [markTI_length, List.length_take]; omega
  by_cases h : l < j
  · rw [if_pos h, List.getElem?_append_left (by rw [hl]; exact h), markTI_take_eq, List.getElem?_take, if_pos h]
  · rw [if_neg h, List.getElem?_append_right (by rw [hl]; omega), hl, List.getElem?_drop]
    congr 1; omega
theorem markTI_at (k : Int) (t : List (List Int)) (i : Nat) (h : i < (markTI k t).length) (h' : i < t.length) : (markTI k t)[i] = markRowI (k + sizeI (t.take i)) t[i].length := by
  induction t generalizing k i with
  | nil => simp at h'
  | cons r t ih =>
    cases i with
    | zero => simp [markTI, sizeI]
    | succ i =>
      have := ih (k + r.length) i (by simpa [markTI] using h) (by simpa using h')
      simp only [markTI, List.getElem_cons_succ, List.take_succ_cons, this]
      congr 1
      simp [sizeI]; omega
theorem set_mark {z : Int} {k : Int} {n i : Nat} {zs : List Int} (hz : z = mkI (k + i)) (hn : zs.length = n) (hi : i < n) :
    (markRowI k i ++ zs.drop i).set i z = markRowI k (i + 1) ++ zs.drop (i + 1) := by
  subst hn
  apply List.ext_getElem?
  intro j
  have h1 : (markRowI k i).length = i := markRowI_length k i
  have h2 : (markRowI k (i + 1)).length = i + 1 := markRowI_length k (i + 1)
  rw [List.getElem?_set]
  by_cases e : i = j
  · subst e
    rw [if_pos rfl, if_pos (by simp [h1]; omega), List.getElem?_append_left (by rw [h2]; omega), hz]
    simp [markRowI]
  · rw [if_neg e]
    by_cases h : j < i
    · rw [List.getElem?_append_left (by rw [h1]; exact h), List.getElem?_append_left (by rw [h2]; omega)]
      simp [markRowI, h, show j < i + 1 by omega]
    · rw [List.getElem?_append_right (by rw [h1]; omega), List.getElem?_append_right (by rw [h2]; omega), h1, h2, List.getElem?_drop, List.getElem?_drop]
      congr 1; omega
end Go.Proofs.Ytelcdjbbcffliaa

/- Marks that the laws lay into tables and look for again. -/
namespace Go.Proofs.Ytelcdjbbcffliaa
open Go.RowKit Go.DC
def mkB (z : Int) : Bool := z % 3 == 0
def markRowB (k : Int) (n : Nat) : List Bool := (List.range n).map fun (i : Nat) => mkB (k + i)
def markTB (k : Int) : List (List Bool) → List (List Bool)
  | [] => []
  | r :: t => markRowB k r.length :: markTB (k + r.length) t
theorem markRowB_length (k : Int) (n : Nat) : (markRowB k n).length = n := by simp [markRowB]
theorem markTB_length (k : Int) (t : List (List Bool)) : (markTB k t).length = t.length := by
  induction t generalizing k with
  | nil => rfl
  | cons r t ih => simp [markTB, ih]
theorem markTB_take (k : Int) (t : List (List Bool)) : ∀ i (h : i < t.length), markTB k (t.take (i + 1)) = markTB k (t.take i) ++ [markRowB (k + sizeB (t.take i)) t[i].length] := by
  induction t generalizing k with
  | nil => intro i h; simp at h
  | cons r t ih =>
    intro i h
    cases i with
    | zero => simp [markTB, sizeB]
    | succ i =>
      have := ih (k + r.length) i (by simpa using h)
      simp only [List.take_succ_cons, markTB, List.cons_append, List.getElem_cons_succ] at this ⊢
      rw [this]
      simp only [sizeB, List.map_cons, List.sum_cons, List.cons.injEq, true_and]
      congr 2
      congr 1
      omega
theorem markTB_take_eq (k : Int) (t : List (List Bool)) (j : Nat) : markTB k (t.take j) = (markTB k t).take j := by
  induction t generalizing k j with
  | nil => simp [markTB]
  | cons r t ih =>
    cases j with
    | zero => simp [markTB]
    | succ j => simp [markTB, ih]
theorem mix_atB (k : Int) (t : List (List Bool)) (j l : Nat) (hj : j ≤ t.length) : (markTB k (t.take j) ++ t.drop j)[l]? = if l < j then (markTB k t)[l]? else t[l]? := by
  have hl : (markTB k (t.take j)).length = j := by rw [markTB_length, List.length_take]; omega
  by_cases h : l < j
  · rw [if_pos h, List.getElem?_append_left (by rw [hl]; exact h), markTB_take_eq, List.getElem?_take, if_pos h]
  · rw [if_neg h, List.getElem?_append_right (by rw [hl]; omega), hl, List.getElem?_drop]
    congr 1; omega
theorem markTB_at (k : Int) (t : List (List Bool)) (i : Nat) (h : i < (markTB k t).length) (h' : i < t.length) : (markTB k t)[i] = markRowB (k + sizeB (t.take i)) t[i].length := by
  induction t generalizing k i with
  | nil => simp at h'
  | cons r t ih =>
    cases i with
    | zero => simp [markTB, sizeB]
    | succ i =>
      have := ih (k + r.length) i (by simpa [markTB] using h) (by simpa using h')
      simp only [markTB, List.getElem_cons_succ, List.take_succ_cons, this]
      congr 1
      simp [sizeB]; omega
theorem set_markB {z : Bool} {k : Int} {n i : Nat} {zs : List Bool} (hz : z = mkB (k + i)) (hn : zs.length = n) (hi : i < n) :
    (markRowB k i ++ zs.drop i).set i z = markRowB k (i + 1) ++ zs.drop (i + 1) := by
  subst hn
  apply List.ext_getElem?
  intro j
  have h1 : (markRowB k i).length = i := markRowB_length k i
  have h2 : (markRowB k (i + 1)).length = i + 1 := markRowB_length k (i + 1)
  rw [List.getElem?_set]
  by_cases e : i = j
  · subst e
    rw [if_pos rfl, if_pos (by simp [h1]; omega), List.getElem?_append_left (by rw [h2]; omega), hz]
    simp [markRowB]
  · rw [if_neg e]
    by_cases h : j < i
    · rw [List.getElem?_append_left (by rw [h1]; exact h), List.getElem?_append_left (by rw [h2]; omega)]
      simp [markRowB, h, show j < i + 1 by omega]
    · rw [List.getElem?_append_right (by rw [h1]; omega), List.getElem?_append_right (by rw [h2]; omega), h1, h2, List.getElem?_drop, List.getElem?_drop]
      congr 1; omega
end Go.Proofs.Ytelcdjbbcffliaa
