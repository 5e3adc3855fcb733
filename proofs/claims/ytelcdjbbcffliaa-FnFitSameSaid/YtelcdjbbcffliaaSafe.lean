/- Cells that are safe, and how many are not. -/
import Derived.Test.YtelcdjbbcffliaaTold
namespace Go.DC
/-- A hidden cell has bounds that are wide enough. -/
noncomputable def safeF (h m : Nat) (f : Nat → Nat → Int) (b : Nat → Nat → Bool) (i j : Nat) (d : Int) : Bool := b i j && (decide (f i j + d ≤ high h m f b i j) && decide (low h m f b i j ≤ max 0 (f i j - d)))
end Go.DC
namespace Go.Proofs.Ytelcdjbbcffliaa
open Go.RowKit Go.DC Go.Shelf
attribute [local go_sem] Oper.semAt_some
def inCell (d : Int) : Bool := decide (0 ≤ d) && decide (d ≤ 99)
theorem inCell_iff {d : Int} : inCell d = true ↔ 0 ≤ d ∧ d ≤ 99 := by unfold inCell; simp
noncomputable def safeV (t : List (List Int)) (mk : List (List Bool)) (i j d : Int) : Bool := hasC t mk i j && (inCell d && safeF t.length (wide t) (get 0 t) (get false mk) i.toNat j.toNat d)
theorem safeV_no {t : List (List Int)} {mk : List (List Bool)} {i j d : Int} (h : hasC t mk i j = false) : safeV t mk i j d = false := by unfold safeV; rw [h]; rfl
theorem safeV_no2 {t : List (List Int)} {mk : List (List Bool)} {i j d : Int} (h : inCell d = false) : safeV t mk i j d = false := by unfold safeV; rw [h]; simp
theorem safeV_at {t : List (List Int)} {mk : List (List Bool)} {i j : Nat} {d : Int} (h : maskOk t mk = true) (hi : i < t.length) (hj : j < wide t) (hd : inCell d = true) : safeV t mk i j d = safeF t.length (wide t) (get 0 t) (get false mk) i j d := by
  unfold safeV; rw [hasC_iff.2 ⟨h, by omega, by omega, by omega, by omega⟩, hd, Bool.true_and, Bool.true_and]; rfl
def notSafe (p : Nat → Nat → Bool) (q : Nat → Nat → Bool) (i j : Nat) : Bool := p i j && !q i j
noncomputable def needV (t : List (List Int)) (fm mk : List (List Bool)) (d : Int) : Int :=
  if maskOk t fm && (maskOk t mk && inCell d) then manyN t.length (wide t) (notSafe (get false fm) (fun i j => safeF t.length (wide t) (get 0 t) (get false mk) i j d)) else -1
theorem take2 {P : Program} {ops : Array Oper} {Q : Exit → Act → World → Prop} {md : Region.Mode} {S : World → Prop} {i : Nat} {oi : Oper} {v : Value} {dst : Option Nat} {fuel : Nat} {listed : Array Bool} {a : Act} {w : World} (hi : ops[i]? = some oi) (hd : oi.dst = dst)
    (hs : Region.noSelect ops = true) (hf : Region.free md ops listed i = true) (hr : (Region.ready md ops listed).contains i = true)
    (hQ : ∀ c a w, Q (.panic c) (a.put dst v) w → Q (.panic c) a w) (hy : YieldsIf P ops S oi v a) (hS : S w)
    (h : wpAnyH P md ops Q S fuel (listed.setIfInBounds i true) (a.put dst v) w) : wpAnyH P md ops Q S (fuel + 1) listed a w := by
  subst hd
  exact wpAnyH_take hi hs hf hr hQ hy hS h
end Go.Proofs.Ytelcdjbbcffliaa
