/- Pieces of a function's body, found by their place. No conditions. -/
import Derived.Test.YtelcdjbbcffliaaBase
namespace Go.DC
open Go.RowKit
/-- The body of the first loop over a function. -/
def rangeBody : Code → Option Code
  | .rangeFunc _ _ _ b => some b
  | .seq a b => match rangeBody a with
    | some c => some c
    | none => rangeBody b
  | .block _ c => rangeBody c
  | .scope c => rangeBody c
  | .cond _ a b => match rangeBody a with
    | some c => some c
    | none => rangeBody b
  | _ => none
/-- The body of the first plain loop that is in no other. -/
def loopBody : Code → Option Code
  | .loop c => some c
  | .seq a b => match loopBody a with
    | some c => some c
    | none => loopBody b
  | .block _ c => loopBody c
  | .scope c => loopBody c
  | .cond _ a b => match loopBody a with
    | some c => some c
    | none => loopBody b
  | _ => none
/-- The region of a number. -/
def regionAt (n : Nat) : Code → Option Code
  | .region k ops d => bif k == n then some (.region k ops d) else none
  | .seq a b => match regionAt n a with
    | some c => some c
    | none => regionAt n b
  | .block _ c => regionAt n c
  | .loop c => regionAt n c
  | .scope c => regionAt n c
  | .rangeFunc _ _ c d => match regionAt n c with
    | some e => some e
    | none => regionAt n d
  | .cond _ a b => match regionAt n a with
    | some c => some c
    | none => regionAt n b
  | _ => none
/-- The code is another's. -/
theorem code_to {F : Fence} {n : Nat} {P : Program} {Q : Exit → Act → World → Prop} {a : Act} {w : World} {c c' : Code} (e : c = c') (h : c'.wpIn F n P Q a w) : c.wpIn F n P Q a w := by rw [e]; exact h
end Go.DC
