/-
  No cell of these rows narrows 'for every input' (looked for: loops, veiled, ifaces, maps, wideKeys, modest, calm, conditions, laid).
  DERIVED. THE GIVEN ROWS OF THIS SEAT. 12 by the template 'for every input the law returns true; each argument reads behind the call as it read before'; 0 by the template 'total and deterministic' (their statements: YtelcdjbbcffliaaTotals.lean).
  GIVEN WITH THE SEED: the statements are not yours to turn. If you find one false, say at which input.
  Laid BY PROGRAM, IN A SANDBOX (cutbox-rows.mjs): the forced cells as the released guide's own fill.sh prints them over the translation 5c4aa9da8c40f448… (all of the seat's roots in one cut). By AI agents, Wed Nov 11 2026. No macro, syntax, notation, axiom, sorry.
-/
import Derived.Test.YtelcdjbbcffliaaChecked
import GoSem.Claim
import GoSem.ClaimJoined
import GoSem.ClaimMapViews
import Derived.JoinedTies
import Derived.KernelRfl
namespace Go.Proofs.Ytelcdjbbcffliaa
/- THE CELL 'sum', in the pinned program and in every row, IS THE sha256 OF THE DUMP (.gsa) THAT YtelcdjbbcffliaaProg.lean LOADS. Nothing in Lean hashes anything: it is a label: what it is worth is what the hold of that sum in a sandbox is worth. -/
noncomputable def Try.pinned : Pinned := { name := "ytelcdjbbcffliaa", sum := "5c4aa9da8c40f448dc5aedc61847b21429412c31e435735b7f551454b8847269", checked := Try.checked }
namespace Rows
def none {H : Type} : Left H := { results := [], args := [] }

/-- 'laws.FnHighRow': WHATEVER THE INPUT: true; the input reads as it did. -/
def fnHighRowSpec : ChangeSpec := { name := "fnHighRow", fn := fun _ => fun
  | [d] => { results := [.lit (.bool true)], args := [d] }
  | _ => none }
def fnHighRowRow : OpenClaim := { program := "ytelcdjbbcffliaa", sum := "5c4aa9da8c40f448dc5aedc61847b21429412c31e435735b7f551454b8847269", func := "loop.example/disclosurecontrol/laws.FnHighRow", spec := "fnHighRow", unfollowed := true, recurses := true, apart := false }
def FnHighRowSaid : Prop := fnHighRowRow.holds Try.pinned (OpenSpec.ofChange fnHighRowSpec)

/-- ITS FALSE NEIGHBOUR: 'it returns false'. Refute it at one input. -/
def fnHighRowWrong : ChangeSpec := { name := "fnHighRow", fn := fun _ => fun
  | [d] => { results := [.lit (.bool false)], args := [d] }
  | _ => none }
def FnHighRowWrongFalsely : Prop := fnHighRowRow.holds Try.pinned (OpenSpec.ofChange fnHighRowWrong)

/-- 'laws.FnHighTwice': WHATEVER THE INPUT: true; the input reads as it did. -/
def fnHighTwiceSpec : ChangeSpec := { name := "fnHighTwice", fn := fun _ => fun
  | [d] => { results := [.lit (.bool true)], args := [d] }
  | _ => none }
def fnHighTwiceRow : OpenClaim := { program := "ytelcdjbbcffliaa", sum := "5c4aa9da8c40f448dc5aedc61847b21429412c31e435735b7f551454b8847269", func := "loop.example/disclosurecontrol/laws.FnHighTwice", spec := "fnHighTwice", unfollowed := true, recurses := true, apart := false }
def FnHighTwiceSaid : Prop := fnHighTwiceRow.holds Try.pinned (OpenSpec.ofChange fnHighTwiceSpec)

/-- ITS FALSE NEIGHBOUR: 'it returns false'. Refute it at one input. -/
def fnHighTwiceWrong : ChangeSpec := { name := "fnHighTwice", fn := fun _ => fun
  | [d] => { results := [.lit (.bool false)], args := [d] }
  | _ => none }
def FnHighTwiceWrongFalsely : Prop := fnHighTwiceRow.holds Try.pinned (OpenSpec.ofChange fnHighTwiceWrong)

/-- 'laws.FnFitTurn': WHATEVER THE INPUT: true; the input reads as it did. -/
def fnFitTurnSpec : ChangeSpec := { name := "fnFitTurn", fn := fun _ => fun
  | [d] => { results := [.lit (.bool true)], args := [d] }
  | _ => none }
def fnFitTurnRow : OpenClaim := { program := "ytelcdjbbcffliaa", sum := "5c4aa9da8c40f448dc5aedc61847b21429412c31e435735b7f551454b8847269", func := "loop.example/disclosurecontrol/laws.FnFitTurn", spec := "fnFitTurn", unfollowed := true, recurses := true, apart := false }
def FnFitTurnSaid : Prop := fnFitTurnRow.holds Try.pinned (OpenSpec.ofChange fnFitTurnSpec)

/-- ITS FALSE NEIGHBOUR: 'it returns false'. Refute it at one input. -/
def fnFitTurnWrong : ChangeSpec := { name := "fnFitTurn", fn := fun _ => fun
  | [d] => { results := [.lit (.bool false)], args := [d] }
  | _ => none }
def FnFitTurnWrongFalsely : Prop := fnFitTurnRow.holds Try.pinned (OpenSpec.ofChange fnFitTurnWrong)

/-- 'laws.FnHighTwo': WHATEVER THE INPUT: true; the input reads as it did. -/
def fnHighTwoSpec : ChangeSpec := { name := "fnHighTwo", fn := fun _ => fun
  | [d] => { results := [.lit (.bool true)], args := [d] }
  | _ => none }
def fnHighTwoRow : OpenClaim := { program := "ytelcdjbbcffliaa", sum := "5c4aa9da8c40f448dc5aedc61847b21429412c31e435735b7f551454b8847269", func := "loop.example/disclosurecontrol/laws.FnHighTwo", spec := "fnHighTwo", unfollowed := true, recurses := true, apart := false }
def FnHighTwoSaid : Prop := fnHighTwoRow.holds Try.pinned (OpenSpec.ofChange fnHighTwoSpec)

/-- ITS FALSE NEIGHBOUR: 'it returns false'. Refute it at one input. -/
def fnHighTwoWrong : ChangeSpec := { name := "fnHighTwo", fn := fun _ => fun
  | [d] => { results := [.lit (.bool false)], args := [d] }
  | _ => none }
def FnHighTwoWrongFalsely : Prop := fnHighTwoRow.holds Try.pinned (OpenSpec.ofChange fnHighTwoWrong)

/-- 'laws.FnHighAll': WHATEVER THE INPUT: true; the input reads as it did. -/
def fnHighAllSpec : ChangeSpec := { name := "fnHighAll", fn := fun _ => fun
  | [d] => { results := [.lit (.bool true)], args := [d] }
  | _ => none }
def fnHighAllRow : OpenClaim := { program := "ytelcdjbbcffliaa", sum := "5c4aa9da8c40f448dc5aedc61847b21429412c31e435735b7f551454b8847269", func := "loop.example/disclosurecontrol/laws.FnHighAll", spec := "fnHighAll", unfollowed := true, recurses := true, apart := false }
def FnHighAllSaid : Prop := fnHighAllRow.holds Try.pinned (OpenSpec.ofChange fnHighAllSpec)

/-- ITS FALSE NEIGHBOUR: 'it returns false'. Refute it at one input. -/
def fnHighAllWrong : ChangeSpec := { name := "fnHighAll", fn := fun _ => fun
  | [d] => { results := [.lit (.bool false)], args := [d] }
  | _ => none }
def FnHighAllWrongFalsely : Prop := fnHighAllRow.holds Try.pinned (OpenSpec.ofChange fnHighAllWrong)

/-- 'laws.FnHighTurn': WHATEVER THE INPUT: true; the input reads as it did. -/
def fnHighTurnSpec : ChangeSpec := { name := "fnHighTurn", fn := fun _ => fun
  | [d] => { results := [.lit (.bool true)], args := [d] }
  | _ => none }
def fnHighTurnRow : OpenClaim := { program := "ytelcdjbbcffliaa", sum := "5c4aa9da8c40f448dc5aedc61847b21429412c31e435735b7f551454b8847269", func := "loop.example/disclosurecontrol/laws.FnHighTurn", spec := "fnHighTurn", unfollowed := true, recurses := true, apart := false }
def FnHighTurnSaid : Prop := fnHighTurnRow.holds Try.pinned (OpenSpec.ofChange fnHighTurnSpec)

/-- ITS FALSE NEIGHBOUR: 'it returns false'. Refute it at one input. -/
def fnHighTurnWrong : ChangeSpec := { name := "fnHighTurn", fn := fun _ => fun
  | [d] => { results := [.lit (.bool false)], args := [d] }
  | _ => none }
def FnHighTurnWrongFalsely : Prop := fnHighTurnRow.holds Try.pinned (OpenSpec.ofChange fnHighTurnWrong)

/-- 'laws.FnExactBoundHigh': WHATEVER THE INPUT: true; the input reads as it did. -/
def fnExactBoundHighSpec : ChangeSpec := { name := "fnExactBoundHigh", fn := fun _ => fun
  | [d1, d2, d3, d4] => { results := [.lit (.bool true)], args := [d1, d2, d3, d4] }
  | _ => none }
def fnExactBoundHighRow : OpenClaim := { program := "ytelcdjbbcffliaa", sum := "5c4aa9da8c40f448dc5aedc61847b21429412c31e435735b7f551454b8847269", func := "loop.example/disclosurecontrol/laws.FnExactBoundHigh", spec := "fnExactBoundHigh", unfollowed := true, recurses := true, apart := false }
def FnExactBoundHighSaid : Prop := fnExactBoundHighRow.holds Try.pinned (OpenSpec.ofChange fnExactBoundHighSpec)

/-- ITS FALSE NEIGHBOUR: 'it returns false'. Refute it at one input. -/
def fnExactBoundHighWrong : ChangeSpec := { name := "fnExactBoundHigh", fn := fun _ => fun
  | [d1, d2, d3, d4] => { results := [.lit (.bool false)], args := [d1, d2, d3, d4] }
  | _ => none }
def FnExactBoundHighWrongFalsely : Prop := fnExactBoundHighRow.holds Try.pinned (OpenSpec.ofChange fnExactBoundHighWrong)

/-- 'laws.FnExactBoundLow': WHATEVER THE INPUT: true; the input reads as it did. -/
def fnExactBoundLowSpec : ChangeSpec := { name := "fnExactBoundLow", fn := fun _ => fun
  | [d1, d2, d3, d4] => { results := [.lit (.bool true)], args := [d1, d2, d3, d4] }
  | _ => none }
def fnExactBoundLowRow : OpenClaim := { program := "ytelcdjbbcffliaa", sum := "5c4aa9da8c40f448dc5aedc61847b21429412c31e435735b7f551454b8847269", func := "loop.example/disclosurecontrol/laws.FnExactBoundLow", spec := "fnExactBoundLow", unfollowed := true, recurses := true, apart := false }
def FnExactBoundLowSaid : Prop := fnExactBoundLowRow.holds Try.pinned (OpenSpec.ofChange fnExactBoundLowSpec)

/-- ITS FALSE NEIGHBOUR: 'it returns false'. Refute it at one input. -/
def fnExactBoundLowWrong : ChangeSpec := { name := "fnExactBoundLow", fn := fun _ => fun
  | [d1, d2, d3, d4] => { results := [.lit (.bool false)], args := [d1, d2, d3, d4] }
  | _ => none }
def FnExactBoundLowWrongFalsely : Prop := fnExactBoundLowRow.holds Try.pinned (OpenSpec.ofChange fnExactBoundLowWrong)

/-- 'laws.FnLowAll': WHATEVER THE INPUT: true; the input reads as it did. -/
def fnLowAllSpec : ChangeSpec := { name := "fnLowAll", fn := fun _ => fun
  | [d] => { results := [.lit (.bool true)], args := [d] }
  | _ => none }
def fnLowAllRow : OpenClaim := { program := "ytelcdjbbcffliaa", sum := "5c4aa9da8c40f448dc5aedc61847b21429412c31e435735b7f551454b8847269", func := "loop.example/disclosurecontrol/laws.FnLowAll", spec := "fnLowAll", unfollowed := true, recurses := true, apart := false }
def FnLowAllSaid : Prop := fnLowAllRow.holds Try.pinned (OpenSpec.ofChange fnLowAllSpec)

/-- ITS FALSE NEIGHBOUR: 'it returns false'. Refute it at one input. -/
def fnLowAllWrong : ChangeSpec := { name := "fnLowAll", fn := fun _ => fun
  | [d] => { results := [.lit (.bool false)], args := [d] }
  | _ => none }
def FnLowAllWrongFalsely : Prop := fnLowAllRow.holds Try.pinned (OpenSpec.ofChange fnLowAllWrong)

/-- 'laws.FnFitBounds': WHATEVER THE INPUT: true; the input reads as it did. -/
def fnFitBoundsSpec : ChangeSpec := { name := "fnFitBounds", fn := fun _ => fun
  | [d1, d2] => { results := [.lit (.bool true)], args := [d1, d2] }
  | _ => none }
def fnFitBoundsRow : OpenClaim := { program := "ytelcdjbbcffliaa", sum := "5c4aa9da8c40f448dc5aedc61847b21429412c31e435735b7f551454b8847269", func := "loop.example/disclosurecontrol/laws.FnFitBounds", spec := "fnFitBounds", unfollowed := true, recurses := true, apart := false }
def FnFitBoundsSaid : Prop := fnFitBoundsRow.holds Try.pinned (OpenSpec.ofChange fnFitBoundsSpec)

/-- ITS FALSE NEIGHBOUR: 'it returns false'. Refute it at one input. -/
def fnFitBoundsWrong : ChangeSpec := { name := "fnFitBounds", fn := fun _ => fun
  | [d1, d2] => { results := [.lit (.bool false)], args := [d1, d2] }
  | _ => none }
def FnFitBoundsWrongFalsely : Prop := fnFitBoundsRow.holds Try.pinned (OpenSpec.ofChange fnFitBoundsWrong)

/-- 'laws.FnFitSame': WHATEVER THE INPUT: true; the input reads as it did. -/
def fnFitSameSpec : ChangeSpec := { name := "fnFitSame", fn := fun _ => fun
  | [d1, d2] => { results := [.lit (.bool true)], args := [d1, d2] }
  | _ => none }
def fnFitSameRow : OpenClaim := { program := "ytelcdjbbcffliaa", sum := "5c4aa9da8c40f448dc5aedc61847b21429412c31e435735b7f551454b8847269", func := "loop.example/disclosurecontrol/laws.FnFitSame", spec := "fnFitSame", unfollowed := true, recurses := true, apart := false }
def FnFitSameSaid : Prop := fnFitSameRow.holds Try.pinned (OpenSpec.ofChange fnFitSameSpec)

/-- ITS FALSE NEIGHBOUR: 'it returns false'. Refute it at one input. -/
def fnFitSameWrong : ChangeSpec := { name := "fnFitSame", fn := fun _ => fun
  | [d1, d2] => { results := [.lit (.bool false)], args := [d1, d2] }
  | _ => none }
def FnFitSameWrongFalsely : Prop := fnFitSameRow.holds Try.pinned (OpenSpec.ofChange fnFitSameWrong)

/-- 'laws.FnFitOnly': WHATEVER THE INPUT: true; the input reads as it did. -/
def fnFitOnlySpec : ChangeSpec := { name := "fnFitOnly", fn := fun _ => fun
  | [d] => { results := [.lit (.bool true)], args := [d] }
  | _ => none }
def fnFitOnlyRow : OpenClaim := { program := "ytelcdjbbcffliaa", sum := "5c4aa9da8c40f448dc5aedc61847b21429412c31e435735b7f551454b8847269", func := "loop.example/disclosurecontrol/laws.FnFitOnly", spec := "fnFitOnly", unfollowed := true, recurses := true, apart := false }
def FnFitOnlySaid : Prop := fnFitOnlyRow.holds Try.pinned (OpenSpec.ofChange fnFitOnlySpec)

/-- ITS FALSE NEIGHBOUR: 'it returns false'. Refute it at one input. -/
def fnFitOnlyWrong : ChangeSpec := { name := "fnFitOnly", fn := fun _ => fun
  | [d] => { results := [.lit (.bool false)], args := [d] }
  | _ => none }
def FnFitOnlyWrongFalsely : Prop := fnFitOnlyRow.holds Try.pinned (OpenSpec.ofChange fnFitOnlyWrong)

/- THE SECOND FORM. 'bulk': how many values and letters a reading holds, each counted each time it is reached (what is shared counts as often as it is met; a slice's spare places count too). A statement '..UptoSaid' is the law's where the arguments, and the package variables that the reading takes, are together of bulk at most 1048576: NARROWER than '..Said'. Prove '..Said' where nothing that the law and all that it calls make is longer than what came in: it says more and counts as full. Else prove '..UptoSaid'. A law counts once. -/
mutual
def uptoBulk {H : Type} : DataW H → Nat
  | .lit (.string bytes) => bytes.length + 1
  | .lit _ => 1
  | .nil => 1
  | .ptr d => uptoBulk d + 1
  | .slice elems spare => uptoBulkAll elems + uptoBulkAll spare + 1
  | .agg parts => uptoBulkAll parts + 1
  | .iface _ d => uptoBulk d + 1
  | .map entries => uptoBulkEntries entries + 1
  | .held _ => 1
def uptoBulkAll {H : Type} : List (DataW H) → Nat
  | [] => 0
  | d :: r => uptoBulk d + uptoBulkAll r
def uptoBulkEntries {H : Type} : List (Lit × DataW H) → Nat
  | [] => 0
  | x :: r => uptoBulkEntry x + uptoBulkEntries r
def uptoBulkEntry {H : Type} : Lit × DataW H → Nat
  | (.string bytes, d) => bytes.length + uptoBulk d + 1
  | (_, d) => uptoBulk d + 1
 end
def uptoSmall : (H : Type) → List (DataW H) → Bool := fun _ ds => decide (uptoBulkAll ds ≤ 1048576)
def OpenSpec.upto (s : _root_.Go.ChangeSpec) : _root_.Go.OpenSpec := { _root_.Go.OpenSpec.ofChange s with cond := some uptoSmall }

/-- 'laws.FnHighRow', WHERE WHAT IT READS IS OF BULK AT MOST 1048576: true; the input reads as it did. -/
def fnHighRowUptoRow : OpenClaim := { program := "ytelcdjbbcffliaa", sum := "5c4aa9da8c40f448dc5aedc61847b21429412c31e435735b7f551454b8847269", func := "loop.example/disclosurecontrol/laws.FnHighRow", spec := "fnHighRow", unfollowed := true, recurses := true, apart := false, narrowed := true }
def FnHighRowUptoSaid : Prop := fnHighRowUptoRow.holds Try.pinned (OpenSpec.upto fnHighRowSpec)

/-- 'laws.FnHighTwice', WHERE WHAT IT READS IS OF BULK AT MOST 1048576: true; the input reads as it did. -/
def fnHighTwiceUptoRow : OpenClaim := { program := "ytelcdjbbcffliaa", sum := "5c4aa9da8c40f448dc5aedc61847b21429412c31e435735b7f551454b8847269", func := "loop.example/disclosurecontrol/laws.FnHighTwice", spec := "fnHighTwice", unfollowed := true, recurses := true, apart := false, narrowed := true }
def FnHighTwiceUptoSaid : Prop := fnHighTwiceUptoRow.holds Try.pinned (OpenSpec.upto fnHighTwiceSpec)

/-- 'laws.FnFitTurn', WHERE WHAT IT READS IS OF BULK AT MOST 1048576: true; the input reads as it did. -/
def fnFitTurnUptoRow : OpenClaim := { program := "ytelcdjbbcffliaa", sum := "5c4aa9da8c40f448dc5aedc61847b21429412c31e435735b7f551454b8847269", func := "loop.example/disclosurecontrol/laws.FnFitTurn", spec := "fnFitTurn", unfollowed := true, recurses := true, apart := false, narrowed := true }
def FnFitTurnUptoSaid : Prop := fnFitTurnUptoRow.holds Try.pinned (OpenSpec.upto fnFitTurnSpec)

/-- 'laws.FnHighTwo', WHERE WHAT IT READS IS OF BULK AT MOST 1048576: true; the input reads as it did. -/
def fnHighTwoUptoRow : OpenClaim := { program := "ytelcdjbbcffliaa", sum := "5c4aa9da8c40f448dc5aedc61847b21429412c31e435735b7f551454b8847269", func := "loop.example/disclosurecontrol/laws.FnHighTwo", spec := "fnHighTwo", unfollowed := true, recurses := true, apart := false, narrowed := true }
def FnHighTwoUptoSaid : Prop := fnHighTwoUptoRow.holds Try.pinned (OpenSpec.upto fnHighTwoSpec)

/-- 'laws.FnHighAll', WHERE WHAT IT READS IS OF BULK AT MOST 1048576: true; the input reads as it did. -/
def fnHighAllUptoRow : OpenClaim := { program := "ytelcdjbbcffliaa", sum := "5c4aa9da8c40f448dc5aedc61847b21429412c31e435735b7f551454b8847269", func := "loop.example/disclosurecontrol/laws.FnHighAll", spec := "fnHighAll", unfollowed := true, recurses := true, apart := false, narrowed := true }
def FnHighAllUptoSaid : Prop := fnHighAllUptoRow.holds Try.pinned (OpenSpec.upto fnHighAllSpec)

/-- 'laws.FnHighTurn', WHERE WHAT IT READS IS OF BULK AT MOST 1048576: true; the input reads as it did. -/
def fnHighTurnUptoRow : OpenClaim := { program := "ytelcdjbbcffliaa", sum := "5c4aa9da8c40f448dc5aedc61847b21429412c31e435735b7f551454b8847269", func := "loop.example/disclosurecontrol/laws.FnHighTurn", spec := "fnHighTurn", unfollowed := true, recurses := true, apart := false, narrowed := true }
def FnHighTurnUptoSaid : Prop := fnHighTurnUptoRow.holds Try.pinned (OpenSpec.upto fnHighTurnSpec)

/-- 'laws.FnExactBoundHigh', WHERE WHAT IT READS IS OF BULK AT MOST 1048576: true; the input reads as it did. -/
def fnExactBoundHighUptoRow : OpenClaim := { program := "ytelcdjbbcffliaa", sum := "5c4aa9da8c40f448dc5aedc61847b21429412c31e435735b7f551454b8847269", func := "loop.example/disclosurecontrol/laws.FnExactBoundHigh", spec := "fnExactBoundHigh", unfollowed := true, recurses := true, apart := false, narrowed := true }
def FnExactBoundHighUptoSaid : Prop := fnExactBoundHighUptoRow.holds Try.pinned (OpenSpec.upto fnExactBoundHighSpec)

/-- 'laws.FnExactBoundLow', WHERE WHAT IT READS IS OF BULK AT MOST 1048576: true; the input reads as it did. -/
def fnExactBoundLowUptoRow : OpenClaim := { program := "ytelcdjbbcffliaa", sum := "5c4aa9da8c40f448dc5aedc61847b21429412c31e435735b7f551454b8847269", func := "loop.example/disclosurecontrol/laws.FnExactBoundLow", spec := "fnExactBoundLow", unfollowed := true, recurses := true, apart := false, narrowed := true }
def FnExactBoundLowUptoSaid : Prop := fnExactBoundLowUptoRow.holds Try.pinned (OpenSpec.upto fnExactBoundLowSpec)

/-- 'laws.FnLowAll', WHERE WHAT IT READS IS OF BULK AT MOST 1048576: true; the input reads as it did. -/
def fnLowAllUptoRow : OpenClaim := { program := "ytelcdjbbcffliaa", sum := "5c4aa9da8c40f448dc5aedc61847b21429412c31e435735b7f551454b8847269", func := "loop.example/disclosurecontrol/laws.FnLowAll", spec := "fnLowAll", unfollowed := true, recurses := true, apart := false, narrowed := true }
def FnLowAllUptoSaid : Prop := fnLowAllUptoRow.holds Try.pinned (OpenSpec.upto fnLowAllSpec)

/-- 'laws.FnFitBounds', WHERE WHAT IT READS IS OF BULK AT MOST 1048576: true; the input reads as it did. -/
def fnFitBoundsUptoRow : OpenClaim := { program := "ytelcdjbbcffliaa", sum := "5c4aa9da8c40f448dc5aedc61847b21429412c31e435735b7f551454b8847269", func := "loop.example/disclosurecontrol/laws.FnFitBounds", spec := "fnFitBounds", unfollowed := true, recurses := true, apart := false, narrowed := true }
def FnFitBoundsUptoSaid : Prop := fnFitBoundsUptoRow.holds Try.pinned (OpenSpec.upto fnFitBoundsSpec)

/-- 'laws.FnFitSame', WHERE WHAT IT READS IS OF BULK AT MOST 1048576: true; the input reads as it did. -/
def fnFitSameUptoRow : OpenClaim := { program := "ytelcdjbbcffliaa", sum := "5c4aa9da8c40f448dc5aedc61847b21429412c31e435735b7f551454b8847269", func := "loop.example/disclosurecontrol/laws.FnFitSame", spec := "fnFitSame", unfollowed := true, recurses := true, apart := false, narrowed := true }
def FnFitSameUptoSaid : Prop := fnFitSameUptoRow.holds Try.pinned (OpenSpec.upto fnFitSameSpec)

/-- 'laws.FnFitOnly', WHERE WHAT IT READS IS OF BULK AT MOST 1048576: true; the input reads as it did. -/
def fnFitOnlyUptoRow : OpenClaim := { program := "ytelcdjbbcffliaa", sum := "5c4aa9da8c40f448dc5aedc61847b21429412c31e435735b7f551454b8847269", func := "loop.example/disclosurecontrol/laws.FnFitOnly", spec := "fnFitOnly", unfollowed := true, recurses := true, apart := false, narrowed := true }
def FnFitOnlyUptoSaid : Prop := fnFitOnlyUptoRow.holds Try.pinned (OpenSpec.upto fnFitOnlySpec)

end Rows
end Go.Proofs.Ytelcdjbbcffliaa
