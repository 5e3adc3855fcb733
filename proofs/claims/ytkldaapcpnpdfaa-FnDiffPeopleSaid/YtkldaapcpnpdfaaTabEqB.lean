/- Masks of tables: both checks. -/
import Derived.Test.YtkldaapcpnpdfaaTabImpl
import Derived.Test.YtkldaapcpnpdfaaTabEqI
/- Masks of tables: both checks. -/
namespace Go.Proofs.Ytkldaapcpnpdfaa
open Go.RowKit Go.DC
/-- A mask of a table. -/
def maskOk (t : List (List Int)) (m : List (List Bool)) : Bool := tabOk t && decide (m.length = t.length) && m.all (fun r => r.length == wide t)
theorem maskOk_no {t : List (List Int)} {m : List (List Bool)} {k : Nat} (hk : k < m.length) (h : ¬ m[k].length = wide t) : maskOk t m = false := by
  unfold maskOk
  rw [all_not hk (by simpa using h), Bool.and_false]
theorem maskOk_yes {t : List (List Int)} {m : List (List Bool)} (h1 : tabOk t = true) (hl : m.length = t.length) (h : ∀ k (hk : k < m.length), m[k].length = wide t) : maskOk t m = true := by
  unfold maskOk
  simp only [h1, hl, decide_true, Bool.and_true, Bool.true_and, List.all_eq_true]
  intro r hr
  obtain ⟨k, hk, rfl⟩ := List.getElem_of_mem hr
  simpa using h k hk
theorem maskOk_rect {t : List (List Int)} {m : List (List Bool)} (h : maskOk t m = true) : tabOk t = true ∧ Rect m t.length (wide t) := by
  unfold maskOk at h
  simp only [Bool.and_eq_true, decide_eq_true_eq, List.all_eq_true, beq_iff_eq] at h
  exact ⟨h.1.1, h.1.2, fun k hk => h.2 _ (List.getElem_mem hk)⟩
end Go.Proofs.Ytkldaapcpnpdfaa

/- Comparisons and copies that the laws and the reference use. -/
namespace Go.Proofs.Ytkldaapcpnpdfaa
open Go.RowKit Go.DC
theorem eq_uptoB {α : Type} [DecidableEq α] {xs ys : List α} (hl : xs.length = ys.length) (h : ∀ k (h1 : k < xs.length) (h2 : k < ys.length), xs[k] = ys[k]) : xs = ys := List.ext_getElem hl h
end Go.Proofs.Ytkldaapcpnpdfaa

/- Copies that the reference and the laws make; sizes; marks. -/
namespace Go.Proofs.Ytkldaapcpnpdfaa
open Go.RowKit Go.DC
theorem set_take1B {α : Type} {zs : List α} {k : Nat} {z : α} (h : k < zs.length) : (zs.take k ++ List.replicate (zs.length - k) z).set k zs[k] = zs.take (k + 1) ++ List.replicate (zs.length - (k + 1)) z := by
  apply List.ext_getElem
  · simp; omega
  · intro i h1 h2
    simp only [List.getElem_set, List.getElem_append, List.getElem_replicate, List.length_take, List.getElem_take]
    repeat' split
    all_goals first | rfl | omega | (rename_i h3 _; subst h3; rfl) | (rename_i h3; subst h3; rfl)
def sizeB (t : List (List Bool)) : Nat := (t.map List.length).sum
theorem sizeB_take (t : List (List Bool)) (i : Nat) (h : i < t.length) : sizeB (t.take (i + 1)) = sizeB (t.take i) + t[i].length := by
  unfold sizeB; rw [List.take_succ_eq_append_getElem h, List.map_append, List.sum_append]; simp
theorem sizeB_le (t : List (List Bool)) (i : Nat) (h : i < t.length) : t[i].length ≤ sizeB t := by
  have h1 := sizeB_take t i h
  have h2 : sizeB t = sizeB (t.take (i + 1)) + sizeB (t.drop (i + 1)) := by
    unfold sizeB; rw [← List.sum_append, ← List.map_append, List.take_append_drop]
  omega
end Go.Proofs.Ytkldaapcpnpdfaa

/- Tables of one's own that are built row by row, the last row cell by cell. -/
namespace Go.DC
open Go.RowKit
section
variable {α : Type} {enc : α → Value} {te ts : TypeId} {w w' : World} {B : Nat} {vo : Value} {vs : List Value} {t : List (List α)} {vr : Value} {zs : List α}
/-- A table of one's own, and beside it a row of one's own that is not yet in it. -/
structure Bld (enc : α → Value) (te ts : TypeId) (w : World) (B : Nat) (vo : Value) (vs : List Value) (t : List (List α)) (vr : Value) (zs : List α) : Prop where
  outer : OwnT enc te ts w B vo vs t
  row : w.ownsRow B te 1 vr zs.length (zs.map enc)
  ne : ∀ b, vr.ownBlock = some b → vo.ownBlock ≠ some b
  ap : ∀ l (_ : l < vs.length), ∀ b, vr.ownBlock = some b → vs[l].ownBlock ≠ some b
theorem Bld.ext (h : Bld enc te ts w B vo vs t vr zs) (e : Ext w w') : Bld enc te ts w' B vo vs t vr zs := ⟨h.outer.ext e, owns_ext h.row e, h.ne, h.ap⟩
theorem Bld.keep {r : Nat} (h : Bld enc te ts w B vo vs t vr zs) (e : Keep r w w') (hr : r < B) : Bld enc te ts w' B vo vs t vr zs := ⟨h.outer.keep e hr, owns_keep h.row e hr, h.ne, h.ap⟩
theorem Bld.start (h : OwnT enc te ts w B vo vs t) (hB : B ≤ w.heap.size) : Bld enc te ts (w.alloc (.cells #[] te)) B vo vs t (.slice (some ⟨w.heap.size, 0, none⟩) 0 0) [] :=
  ⟨h.ext ((Ext.refl w).alloc _), World.ownsRow_made w #[] 0 hB (by decide) rfl,
   fun b hb hh => by have := (h.outer_lt hh).2; simp [Value.ownBlock] at hb; omega,
   fun l hl b hb hh => by have := (h.inner_lt hl hh).2; simp [Value.ownBlock] at hb; omega⟩
theorem Bld.more {vr' : Value} {zs' : List α} (h : Bld enc te ts w B vo vs t vr zs) (g : w.grownBy w' vr.ownBlock) (o : w'.ownsRow B te 1 vr' zs'.length (zs'.map enc)) (hat : vr'.ownBlock = vr.ownBlock ∨ vr'.ownBlock = some w.heap.size) : Bld enc te ts w' B vo vs t vr' zs' := by
  refine ⟨h.outer.grown g ?_ ?_, o, fun b hb hh => ?_, fun l hl b hb hh => ?_⟩
  · cases hv : vo.ownBlock with
    | none => exact .inl rfl
    | some b => exact .inr (fun e => h.ne b e.symm hv)
  · intro k hk
    cases hv : vs[k].ownBlock with
    | none => exact .inl rfl
    | some b => exact .inr (fun e => h.ap k hk b e.symm hv)
  · rcases hat with e | e
    · exact h.ne b (e ▸ hb) hh
    · rw [e] at hb; cases hb
      have := (h.outer.outer_lt hh).2; omega
  · rcases hat with e | e
    · exact h.ap l hl b (e ▸ hb) hh
    · rw [e] at hb; cases hb
      have := (h.outer.inner_lt hl hh).2; omega
theorem Bld.lt (h : Bld enc te ts w B vo vs t vr zs) {b : Nat} (hb : vr.ownBlock = some b) : B ≤ b ∧ b < w.heap.size := h.row.lt b hb
theorem one_row (w : World) (z : α) : TRow enc (w.alloc (.cells #[enc z] te)) (some ⟨w.heap.size, 0, none⟩) [z] := fun i hi => ⟨w.heap.size, 0, rfl, by
  have : i = 0 := by simpa using hi
  subst this
  simp [go_sem]⟩
theorem one_cell (w : World) (u : Value) (ty : TypeId) : (w.alloc (.cells #[u] ty)).cell? ⟨w.heap.size, 0, none⟩ = some u := by simp [go_sem]
end
end Go.DC
namespace Go.Proofs.Ytkldaapcpnpdfaa
open Go.RowKit Go.DC
abbrev BldB := @Bld Bool encB 4 69
/-- The value of a row of one's own is one cell. -/
theorem own_one {w : World} {B : Nat} {e : TypeId} {s n : Nat} {v : Value} {xs : List Value} (h : w.ownsRow B e s v n xs) : v.oneCell' = true := by
  obtain ⟨a, c, rfl, _⟩ := owns_cells h; rfl
/-- The mask of a table with equal flags. -/
def allM (t : List (List Int)) (b : Bool) : List (List Bool) := t.map fun r => List.replicate r.length b
theorem allM_take (t : List (List Int)) (b : Bool) {k : Nat} (h : k < t.length) : allM (t.take (k + 1)) b = allM (t.take k) b ++ [List.replicate t[k].length b] := by
  unfold allM
  rw [List.take_succ_eq_append_getElem h, List.map_append]; rfl
end Go.Proofs.Ytkldaapcpnpdfaa
