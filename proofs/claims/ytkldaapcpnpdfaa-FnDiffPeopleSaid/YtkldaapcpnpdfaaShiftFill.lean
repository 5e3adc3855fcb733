/- The room, as it is filled; the boxes of the walk of impl.shift. -/
import Derived.Test.YtkldaapcpnpdfaaReach
import Derived.Test.YtkldaapcpnpdfaaTabEqB
import Derived.Test.YtkldaapcpnpdfaaTurn
import Derived.Test.YtkldaapcpnpdfaaBase
import Derived.Sort.LoopGhostIn
import Derived.Test.YtkldaapcpnpdfaaFlow
/- The room, as it is filled; the boxes of the walk of impl.shift. -/
namespace Go.Proofs.Ytkldaapcpnpdfaa
open Go.RowKit Go.DC Go.Shelf
attribute [local go_sem] Oper.semAt_some
end Go.Proofs.Ytkldaapcpnpdfaa

/- The bounds of a cell; whether there is a cell. -/
namespace Go.Proofs.Ytkldaapcpnpdfaa
open Go.RowKit Go.DC
/-- There is a cell (i, j). -/
def hasC (t : List (List Int)) (mk : List (List Bool)) (i j : Int) : Bool := maskOk t mk && (decide (0 ≤ i) && decide (i < t.length) && (decide (0 ≤ j) && decide (j < wide t)))
theorem hasC_no {t : List (List Int)} {mk : List (List Bool)} {i j : Int} (h : maskOk t mk = false) : hasC t mk i j = false := by unfold hasC; rw [h]; rfl
theorem hasC_iff {t : List (List Int)} {mk : List (List Bool)} {i j : Int} : hasC t mk i j = true ↔ maskOk t mk = true ∧ 0 ≤ i ∧ i < t.length ∧ 0 ≤ j ∧ j < wide t := by
  unfold hasC
  simp only [Bool.and_eq_true, decide_eq_true_eq]
  constructor
  · rintro ⟨h1, ⟨h2, h3⟩, h4, h5⟩; exact ⟨h1, h2, h3, h4, h5⟩
  · rintro ⟨h1, h2, h3, h4, h5⟩; exact ⟨h1, ⟨h2, h3⟩, h4, h5⟩
theorem hasC_nat {t : List (List Int)} {mk : List (List Bool)} {i j : Int} (h : hasC t mk i j = true) : ∃ i' j' : Nat, i = i' ∧ j = j' ∧ i' < t.length ∧ j' < wide t ∧ maskOk t mk = true := by
  obtain ⟨h1, h2, h3, h4, h5⟩ := hasC_iff.1 h
  exact ⟨i.toNat, j.toNat, by omega, by omega, by omega, by omega, h1⟩
/-- The greatest and the least number of a cell, -1 where there is none. -/
noncomputable def highV (t : List (List Int)) (mk : List (List Bool)) (i j : Int) : Int := if hasC t mk i j then high t.length (wide t) (get 0 t) (get false mk) i.toNat j.toNat else -1
noncomputable def lowV (t : List (List Int)) (mk : List (List Bool)) (i j : Int) : Int := if hasC t mk i j then low t.length (wide t) (get 0 t) (get false mk) i.toNat j.toNat else -1
theorem highV_no {t : List (List Int)} {mk : List (List Bool)} {i j : Int} (h : hasC t mk i j = false) : highV t mk i j = -1 := by unfold highV; rw [h]; rfl
theorem lowV_no {t : List (List Int)} {mk : List (List Bool)} {i j : Int} (h : hasC t mk i j = false) : lowV t mk i j = -1 := by unfold lowV; rw [h]; rfl
theorem highV_at {t : List (List Int)} {mk : List (List Bool)} {i j : Nat} (h : maskOk t mk = true) (hi : i < t.length) (hj : j < wide t) : highV t mk i j = high t.length (wide t) (get 0 t) (get false mk) i j := by
  unfold highV; rw [if_pos (hasC_iff.2 ⟨h, by omega, by omega, by omega, by omega⟩)]; rfl
theorem lowV_at {t : List (List Int)} {mk : List (List Bool)} {i j : Nat} (h : maskOk t mk = true) (hi : i < t.length) (hj : j < wide t) : lowV t mk i j = low t.length (wide t) (get 0 t) (get false mk) i j := by
  unfold lowV; rw [if_pos (hasC_iff.2 ⟨h, by omega, by omega, by omega, by omega⟩)]; rfl
theorem maskOk_pos {t : List (List Int)} {mk : List (List Bool)} (h : maskOk t mk = true) : Pos t.length (wide t) (get 0 t) := fun k l hk hl => ((tabOk_rect (maskOk_rect h).1).2.2.2.2.2 k l hk hl).1
theorem maskOk_lens {t : List (List Int)} {mk : List (List Bool)} (h : maskOk t mk = true) : 1 ≤ t.length ∧ t.length ≤ 4 ∧ 1 ≤ wide t ∧ wide t ≤ 4 := by
  obtain ⟨_, h1, h4, m1, m4, _⟩ := tabOk_rect (maskOk_rect h).1
  exact ⟨h1, h4, m1, m4⟩
theorem high_bd {t : List (List Int)} {mk : List (List Bool)} (h : maskOk t mk = true) {i j : Nat} (hi : i < t.length) (hj : j < wide t) : 0 ≤ high t.length (wide t) (get 0 t) (get false mk) i j ∧ high t.length (wide t) (get 0 t) (get false mk) i j ≤ 396 := by
  obtain ⟨_, h1, h4, m1, m4, hc⟩ := tabOk_rect (maskOk_rect h).1
  have h0 := maskOk_pos h
  have a := high_ge (b := get false mk) h0 hi hj
  have c := h0 i j hi hj
  have d := high_row_le (b := get false mk) h0 hi hj
  have e : sumN (wide t) (get 0 t i) ≤ sumN (wide t) (fun _ => 99) := sumN_le fun l hl => (hc i l hi hl).2
  rw [sumN_const] at e
  omega
theorem low_bd {t : List (List Int)} {mk : List (List Bool)} (h : maskOk t mk = true) {i j : Nat} (hi : i < t.length) (hj : j < wide t) : 0 ≤ low t.length (wide t) (get 0 t) (get false mk) i j ∧ low t.length (wide t) (get 0 t) (get false mk) i j ≤ 99 := by
  obtain ⟨_, h1, h4, m1, m4, hc⟩ := tabOk_rect (maskOk_rect h).1
  have h0 := maskOk_pos h
  have a := low_le (b := get false mk) h0 hi hj
  have c := low_pos (b := get false mk) h0 hi hj
  have d := (hc i j hi hj).2
  omega
end Go.Proofs.Ytkldaapcpnpdfaa

/- The two stores of a round of impl.shift's first loop. No conditions. -/
namespace Go.Proofs.Ytkldaapcpnpdfaa
open Go.RowKit Go.DC Go.Shelf
attribute [local go_sem] Oper.semAt_some
end Go.Proofs.Ytkldaapcpnpdfaa

/- A round of impl.shift's first loop. No conditions. -/
namespace Go.Proofs.Ytkldaapcpnpdfaa
open Go.RowKit Go.DC Go.Shelf
attribute [local go_sem] Oper.semAt_some
end Go.Proofs.Ytkldaapcpnpdfaa
