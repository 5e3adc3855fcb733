/- Rows and columns are exchanged. -/
import Derived.Test.YtkldaapcpnpdfaaCells
import Derived.Sort.CutIn
namespace Go.Proofs.Ytkldaapcpnpdfaa
open Go.RowKit Go.DC Go.Shelf
attribute [local go_sem] Oper.semAt_some
def turnT (t : List (List Int)) : List (List Int) := tabOf (wide t) t.length (fun a b => get 0 t b a)
def turnM (t : List (List Int)) : List (List Int) := if tabOk t then turnT t else []
def TurnOut (t : List (List Int)) (w : World) (e : Ending) (w' : World) : Prop :=
  ∃ v vs, e = .returned (.tuple #[v, .bool (tabOk t)]) ∧ OwnI w' w.heap.size v vs (turnM t) ∧ Ext w w'
def turnG (t : List (List Int)) (pre : List (Cell t.length (wide t))) : Nat → Nat → Int := fun a b => if cnt pre b a = 0 then 0 else get 0 t b a
theorem turnG_step {t : List (List Int)} (pre : List (Cell t.length (wide t))) {i j : Nat} (hi : i < t.length) (hj : j < wide t) : upd (turnG t pre) j i (get 0 t i j) = turnG t (pre ++ [⟨(i, j), hi, hj⟩]) := by
  funext a b
  unfold upd turnG
  rw [cnt_append, cnt_one]
  by_cases e : a = j ∧ b = i
  · obtain ⟨rfl, rfl⟩ := e
    simp
  · have e2 : ¬ (b = i ∧ a = j) := fun x => e ⟨x.2, x.1⟩
    rw [if_neg e]
    simp only [e2, if_false, Nat.add_zero]
/-- A new table in a new box. -/
structure NewBox (W0 wx : World) (T : TypeId) (p : Nat) (v : Value) (vs : List Value) (t : List (List Int)) : Prop where
  box : Box wx p T v
  ge : W0.heap.size ≤ p
  own : OwnI wx W0.heap.size v vs t
  ne : v.ownBlock ≠ some p
  nes : ∀ u ∈ vs, u.ownBlock ≠ some p
  ext : Ext W0 wx
theorem newBox_A {W0 w3 : World} {T : TypeId} {v : Value} {vs : List Value} {t : List (List Int)} (o3 : OwnI w3 W0.drew.heap.size v vs t) (e3 : Ext W0.drew w3) : NewBox W0 (w3.alloc (.cells #[v] T)) T w3.heap.size v vs t :=
  ⟨Box.new w3 T v, e3.size, o3.ext ((Ext.refl w3).alloc _), fun h => Nat.lt_irrefl _ (o3.outer_lt h).2, fun u hu h => by
    obtain ⟨k, hk, rfl⟩ := List.getElem_of_mem hu
    exact Nat.lt_irrefl _ (o3.inner_lt hk h).2, (((Ext.refl W0).drew).trans e3).alloc _⟩
theorem newBox_B {W0 w3 : World} {T : TypeId} {u v : Value} {o : Obj} {vs : List Value} {t : List (List Int)} (o3 : OwnI w3 (W0.alloc o).drew.heap.size v vs t) (e3 : Ext (W0.alloc o).drew w3) (bP : Box w3 W0.heap.size T u) : NewBox W0 (w3.setCell ⟨W0.heap.size, 0, none⟩ v) T W0.heap.size v vs t := by
  have hs : (W0.alloc o).drew.heap.size = W0.heap.size + 1 := by show (W0.alloc o).heap.size = _; simp
  rw [hs] at o3
  refine ⟨bP.set v, Nat.le_refl _, (o3.keep ((Keep.refl W0.heap.size w3).setCell (p := ⟨W0.heap.size, 0, none⟩) rfl v) (Nat.lt_succ_self _)).base (Nat.le_succ _), fun h => ?_, fun u hu h => ?_, ((((Ext.refl W0).alloc o).drew).trans e3).setCell (p := ⟨W0.heap.size, 0, none⟩) (Nat.le_refl _) v⟩
  · have := (o3.outer_lt h).1; omega
  · obtain ⟨k, hk, rfl⟩ := List.getElem_of_mem hu
    have := (o3.inner_lt hk h).1; omega
end Go.Proofs.Ytkldaapcpnpdfaa
