/- Cells that are hidden in vain: one, and how many. -/
import Derived.Test.YtnlolgooicgfdaaBndLaw
import Derived.Test.YtnlolgooicgfdaaSPath
namespace Go.DC
/-- A hidden cell has one number alone. -/
noncomputable def toldF (h m : Nat) (f : Nat → Nat → Int) (b : Nat → Nat → Bool) (i j : Nat) : Bool := b i j && decide (high h m f b i j = low h m f b i j)
def one (p : Nat → Nat → Bool) (i j : Nat) : Int := if p i j then 1 else 0
/-- How many cells there are with p. -/
def manyN (h m : Nat) (p : Nat → Nat → Bool) : Int := sumN h (fun i => sumN m (one p i))
theorem one_bd (p : Nat → Nat → Bool) (i j : Nat) : 0 ≤ one p i j ∧ one p i j ≤ 1 := by unfold one; split <;> omega
theorem manyN_bd (p : Nat → Nat → Bool) {h m : Nat} (h4 : h ≤ 4) (m4 : m ≤ 4) : 0 ≤ manyN h m p ∧ manyN h m p ≤ 16 := by
  refine ⟨sumN_nonneg fun i _ => sumN_nonneg fun j _ => (one_bd p i j).1, ?_⟩
  have e : manyN h m p ≤ sumN h (fun _ => 4) := sumN_le fun i _ => by
    have e : sumN m (one p i) ≤ sumN m (fun _ => 1) := sumN_le fun j _ => (one_bd p i j).2
    rw [sumN_const] at e; omega
  rw [sumN_const] at e; omega
theorem manyN_congr {p q : Nat → Nat → Bool} {h m : Nat} (e : ∀ i j, i < h → j < m → p i j = q i j) : manyN h m p = manyN h m q :=
  sumN_congr fun i hi => sumN_congr fun j hj => by unfold one; rw [e i j hi hj]
theorem manyN_le {p q : Nat → Nat → Bool} {h m : Nat} (e : ∀ i j, i < h → j < m → p i j = true → q i j = true) : manyN h m p ≤ manyN h m q :=
  sumN_le fun i hi => sumN_le fun j hj => by
    cases hp : p i j with
    | true =>
      have h1 := (one_bd p i j).2
      have h2 : one q i j = 1 := by unfold one; rw [e i j hi hj hp]; rfl
      omega
    | false =>
      have h1 : one p i j = 0 := by unfold one; rw [hp]; rfl
      have h2 := (one_bd q i j).1
      omega
theorem manyN_zero {p : Nat → Nat → Bool} {h m : Nat} (e : ∀ i j, i < h → j < m → p i j = false) : manyN h m p = 0 := by
  unfold manyN
  rw [sumN_congr (g := fun _ => 0) (fun i hi => ?_), sumN_zero]
  rw [sumN_congr (g := fun _ => 0) (fun j hj => ?_), sumN_zero]
  unfold one; rw [e i j hi hj]; rfl
theorem manyN_turn (p : Nat → Nat → Bool) (h m : Nat) : manyN m h (fun i j => p j i) = manyN h m p := by
  unfold manyN
  rw [sumN_comm]
  rfl
theorem manyN_none {p : Nat → Nat → Bool} {h m : Nat} (e : manyN h m p = 0) : ∀ i j, i < h → j < m → p i j = false := fun i j hi hj => by
  cases hp : p i j with
  | false => rfl
  | true =>
    have h1 : sumN m (one p i) ≤ manyN h m p := le_sumN (f := fun i => sumN m (one p i)) hi (fun k _ _ => sumN_nonneg fun l _ => (one_bd p k l).1)
    have h2 : one p i j ≤ sumN m (one p i) := le_sumN (f := one p i) hj (fun l _ _ => (one_bd p i l).1)
    have h3 : one p i j = 1 := by unfold one; rw [hp]; rfl
    omega
end Go.DC
namespace Go.Proofs.Ytnlolgooicgfdaa
open Go.RowKit Go.DC Go.Shelf
attribute [local go_sem] Oper.semAt_some
noncomputable def toldV (t : List (List Int)) (mk : List (List Bool)) (i j : Int) : Bool := hasC t mk i j && toldF t.length (wide t) (get 0 t) (get false mk) i.toNat j.toNat
theorem toldV_no {t : List (List Int)} {mk : List (List Bool)} {i j : Int} (h : hasC t mk i j = false) : toldV t mk i j = false := by unfold toldV; rw [h]; rfl
theorem toldV_at {t : List (List Int)} {mk : List (List Bool)} {i j : Nat} (h : maskOk t mk = true) (hi : i < t.length) (hj : j < wide t) : toldV t mk i j = toldF t.length (wide t) (get 0 t) (get false mk) i j := by
  unfold toldV; rw [hasC_iff.2 ⟨h, by omega, by omega, by omega, by omega⟩, Bool.true_and]; rfl
noncomputable def manyV (t : List (List Int)) (mk : List (List Bool)) : Int := if maskOk t mk then manyN t.length (wide t) (toldF t.length (wide t) (get 0 t) (get false mk)) else -1
end Go.Proofs.Ytnlolgooicgfdaa
