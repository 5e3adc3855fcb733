/- Copies that the reference and the laws make; sizes; marks. -/
import Derived.Test.YtkldaapcpnpdfaaTabEqI
namespace Go.Proofs.Ytkldaapcpnpdfaa
open Go.RowKit Go.DC
theorem set_take1 {α : Type} {zs : List α} {k : Nat} {z : α} (h : k < zs.length) : (zs.take k ++ List.replicate (zs.length - k) z).set k zs[k] = zs.take (k + 1) ++ List.replicate (zs.length - (k + 1)) z := by
  apply List.ext_getElem
  · simp; omega
  · intro i h1 h2
    simp only [List.getElem_set, List.getElem_append, List.getElem_replicate, List.length_take, List.getElem_take]
    repeat' split
    all_goals first | rfl | omega | (rename_i h3 _; subst h3; rfl) | (rename_i h3; subst h3; rfl)
def sizeI (t : List (List Int)) : Nat := (t.map List.length).sum
theorem sizeI_take (t : List (List Int)) (i : Nat) (h : i < t.length) : sizeI (t.take (i + 1)) = sizeI (t.take i) + t[i].length := by
  unfold sizeI; rw [List.take_succ_eq_append_getElem h, List.map_append, List.sum_append]; simp
theorem sizeI_le (t : List (List Int)) (i : Nat) (h : i < t.length) : t[i].length ≤ sizeI t := by
  have h1 := sizeI_take t i h
  have h2 : sizeI t = sizeI (t.take (i + 1)) + sizeI (t.drop (i + 1)) := by
    unfold sizeI; rw [← List.sum_append, ← List.map_append, List.take_append_drop]
  omega
end Go.Proofs.Ytkldaapcpnpdfaa
