/-
  No cell of these rows narrows 'for every input' (looked for: loops, veiled, ifaces, maps, wideKeys, modest, calm, conditions, laid).
  DERIVED. THE GIVEN ROWS OF THIS SEAT. 10 by the template 'for every input the law returns true; each argument reads behind the call as it read before'; 0 by the template 'total and deterministic' (their statements: YtfompehpoanhaaaTotals.lean).
  GIVEN WITH THE SEED: the statements are not yours to turn. If you find one false, say at which input.
  Laid BY PROGRAM, IN A SANDBOX (cutbox-rows.mjs): the forced cells as the released guide's own fill.sh prints them over the translation e2d33879bd9fc681… (all of the seat's roots in one cut). By AI agents, Wed Nov 11 2026. No macro, syntax, notation, axiom, sorry.
-/
import Derived.Test.YtfompehpoanhaaaChecked
import GoSem.Claim
import GoSem.ClaimJoined
import GoSem.ClaimMapViews
import Derived.JoinedTies
import Derived.KernelRfl
namespace Go.Proofs.Ytfompehpoanhaaa
/- THE CELL 'sum', in the pinned program and in every row, IS THE sha256 OF THE DUMP (.gsa) THAT YtfompehpoanhaaaProg.lean LOADS. Nothing in Lean hashes anything: it is a label: what it is worth is what the hold of that sum in a sandbox is worth. -/
noncomputable def Try.pinned : Pinned := { name := "ytfompehpoanhaaa", sum := "e2d33879bd9fc681aad043a9118eed8ceaf8eafce9fbf630da51136b97f7f3af", checked := Try.checked }
namespace Rows
def none {H : Type} : Left H := { results := [], args := [] }

/-- 'laws.FnDiffTwice': WHATEVER THE INPUT: true; the input reads as it did. -/
def fnDiffTwiceSpec : ChangeSpec := { name := "fnDiffTwice", fn := fun _ => fun
  | [d] => { results := [.lit (.bool true)], args := [d] }
  | _ => none }
def fnDiffTwiceRow : OpenClaim := { program := "ytfompehpoanhaaa", sum := "e2d33879bd9fc681aad043a9118eed8ceaf8eafce9fbf630da51136b97f7f3af", func := "loop.example/disclosurecontrol/laws.FnDiffTwice", spec := "fnDiffTwice", unfollowed := true, recurses := true, apart := false }
def FnDiffTwiceSaid : Prop := fnDiffTwiceRow.holds Try.pinned (OpenSpec.ofChange fnDiffTwiceSpec)

/-- ITS FALSE NEIGHBOUR: 'it returns false'. Refute it at one input. -/
def fnDiffTwiceWrong : ChangeSpec := { name := "fnDiffTwice", fn := fun _ => fun
  | [d] => { results := [.lit (.bool false)], args := [d] }
  | _ => none }
def FnDiffTwiceWrongFalsely : Prop := fnDiffTwiceRow.holds Try.pinned (OpenSpec.ofChange fnDiffTwiceWrong)

/-- 'laws.FnExactDiffTable': WHATEVER THE INPUT: true; the input reads as it did. -/
def fnExactDiffTableSpec : ChangeSpec := { name := "fnExactDiffTable", fn := fun _ => fun
  | [d1, d2] => { results := [.lit (.bool true)], args := [d1, d2] }
  | _ => none }
def fnExactDiffTableRow : OpenClaim := { program := "ytfompehpoanhaaa", sum := "e2d33879bd9fc681aad043a9118eed8ceaf8eafce9fbf630da51136b97f7f3af", func := "loop.example/disclosurecontrol/laws.FnExactDiffTable", spec := "fnExactDiffTable", unfollowed := true, recurses := true, apart := false }
def FnExactDiffTableSaid : Prop := fnExactDiffTableRow.holds Try.pinned (OpenSpec.ofChange fnExactDiffTableSpec)

/-- ITS FALSE NEIGHBOUR: 'it returns false'. Refute it at one input. -/
def fnExactDiffTableWrong : ChangeSpec := { name := "fnExactDiffTable", fn := fun _ => fun
  | [d1, d2] => { results := [.lit (.bool false)], args := [d1, d2] }
  | _ => none }
def FnExactDiffTableWrongFalsely : Prop := fnExactDiffTableRow.holds Try.pinned (OpenSpec.ofChange fnExactDiffTableWrong)

/-- 'laws.FnPatternCost': WHATEVER THE INPUT: true; the input reads as it did. -/
def fnPatternCostSpec : ChangeSpec := { name := "fnPatternCost", fn := fun _ => fun
  | [d] => { results := [.lit (.bool true)], args := [d] }
  | _ => none }
def fnPatternCostRow : OpenClaim := { program := "ytfompehpoanhaaa", sum := "e2d33879bd9fc681aad043a9118eed8ceaf8eafce9fbf630da51136b97f7f3af", func := "loop.example/disclosurecontrol/laws.FnPatternCost", spec := "fnPatternCost", unfollowed := true, recurses := true, apart := false }
def FnPatternCostSaid : Prop := fnPatternCostRow.holds Try.pinned (OpenSpec.ofChange fnPatternCostSpec)

/-- ITS FALSE NEIGHBOUR: 'it returns false'. Refute it at one input. -/
def fnPatternCostWrong : ChangeSpec := { name := "fnPatternCost", fn := fun _ => fun
  | [d] => { results := [.lit (.bool false)], args := [d] }
  | _ => none }
def FnPatternCostWrongFalsely : Prop := fnPatternCostRow.holds Try.pinned (OpenSpec.ofChange fnPatternCostWrong)

/-- 'laws.FnExactPatternCost': WHATEVER THE INPUT: true; the input reads as it did. -/
def fnExactPatternCostSpec : ChangeSpec := { name := "fnExactPatternCost", fn := fun _ => fun
  | [d1, d2] => { results := [.lit (.bool true)], args := [d1, d2] }
  | _ => none }
def fnExactPatternCostRow : OpenClaim := { program := "ytfompehpoanhaaa", sum := "e2d33879bd9fc681aad043a9118eed8ceaf8eafce9fbf630da51136b97f7f3af", func := "loop.example/disclosurecontrol/laws.FnExactPatternCost", spec := "fnExactPatternCost", unfollowed := true, recurses := true, apart := false }
def FnExactPatternCostSaid : Prop := fnExactPatternCostRow.holds Try.pinned (OpenSpec.ofChange fnExactPatternCostSpec)

/-- ITS FALSE NEIGHBOUR: 'it returns false'. Refute it at one input. -/
def fnExactPatternCostWrong : ChangeSpec := { name := "fnExactPatternCost", fn := fun _ => fun
  | [d1, d2] => { results := [.lit (.bool false)], args := [d1, d2] }
  | _ => none }
def FnExactPatternCostWrongFalsely : Prop := fnExactPatternCostRow.holds Try.pinned (OpenSpec.ofChange fnExactPatternCostWrong)

/-- 'laws.FnDiffRow': WHATEVER THE INPUT: true; the input reads as it did. -/
def fnDiffRowSpec : ChangeSpec := { name := "fnDiffRow", fn := fun _ => fun
  | [d] => { results := [.lit (.bool true)], args := [d] }
  | _ => none }
def fnDiffRowRow : OpenClaim := { program := "ytfompehpoanhaaa", sum := "e2d33879bd9fc681aad043a9118eed8ceaf8eafce9fbf630da51136b97f7f3af", func := "loop.example/disclosurecontrol/laws.FnDiffRow", spec := "fnDiffRow", unfollowed := true, recurses := true, apart := false }
def FnDiffRowSaid : Prop := fnDiffRowRow.holds Try.pinned (OpenSpec.ofChange fnDiffRowSpec)

/-- ITS FALSE NEIGHBOUR: 'it returns false'. Refute it at one input. -/
def fnDiffRowWrong : ChangeSpec := { name := "fnDiffRow", fn := fun _ => fun
  | [d] => { results := [.lit (.bool false)], args := [d] }
  | _ => none }
def FnDiffRowWrongFalsely : Prop := fnDiffRowRow.holds Try.pinned (OpenSpec.ofChange fnDiffRowWrong)

/-- 'laws.FnDiff': WHATEVER THE INPUT: true; the input reads as it did. -/
def fnDiffSpec : ChangeSpec := { name := "fnDiff", fn := fun _ => fun
  | [d] => { results := [.lit (.bool true)], args := [d] }
  | _ => none }
def fnDiffRow : OpenClaim := { program := "ytfompehpoanhaaa", sum := "e2d33879bd9fc681aad043a9118eed8ceaf8eafce9fbf630da51136b97f7f3af", func := "loop.example/disclosurecontrol/laws.FnDiff", spec := "fnDiff", unfollowed := true, recurses := true, apart := false }
def FnDiffSaid : Prop := fnDiffRow.holds Try.pinned (OpenSpec.ofChange fnDiffSpec)

/-- ITS FALSE NEIGHBOUR: 'it returns false'. Refute it at one input. -/
def fnDiffWrong : ChangeSpec := { name := "fnDiff", fn := fun _ => fun
  | [d] => { results := [.lit (.bool false)], args := [d] }
  | _ => none }
def FnDiffWrongFalsely : Prop := fnDiffRow.holds Try.pinned (OpenSpec.ofChange fnDiffWrong)

/-- 'laws.FnDiffFold': WHATEVER THE INPUT: true; the input reads as it did. -/
def fnDiffFoldSpec : ChangeSpec := { name := "fnDiffFold", fn := fun _ => fun
  | [d] => { results := [.lit (.bool true)], args := [d] }
  | _ => none }
def fnDiffFoldRow : OpenClaim := { program := "ytfompehpoanhaaa", sum := "e2d33879bd9fc681aad043a9118eed8ceaf8eafce9fbf630da51136b97f7f3af", func := "loop.example/disclosurecontrol/laws.FnDiffFold", spec := "fnDiffFold", unfollowed := true, recurses := true, apart := false }
def FnDiffFoldSaid : Prop := fnDiffFoldRow.holds Try.pinned (OpenSpec.ofChange fnDiffFoldSpec)

/-- ITS FALSE NEIGHBOUR: 'it returns false'. Refute it at one input. -/
def fnDiffFoldWrong : ChangeSpec := { name := "fnDiffFold", fn := fun _ => fun
  | [d] => { results := [.lit (.bool false)], args := [d] }
  | _ => none }
def FnDiffFoldWrongFalsely : Prop := fnDiffFoldRow.holds Try.pinned (OpenSpec.ofChange fnDiffFoldWrong)

/-- 'laws.FnExactDiffRisk': WHATEVER THE INPUT: true; the input reads as it did. -/
def fnExactDiffRiskSpec : ChangeSpec := { name := "fnExactDiffRisk", fn := fun _ => fun
  | [d1, d2, d3] => { results := [.lit (.bool true)], args := [d1, d2, d3] }
  | _ => none }
def fnExactDiffRiskRow : OpenClaim := { program := "ytfompehpoanhaaa", sum := "e2d33879bd9fc681aad043a9118eed8ceaf8eafce9fbf630da51136b97f7f3af", func := "loop.example/disclosurecontrol/laws.FnExactDiffRisk", spec := "fnExactDiffRisk", unfollowed := true, recurses := true, apart := false }
def FnExactDiffRiskSaid : Prop := fnExactDiffRiskRow.holds Try.pinned (OpenSpec.ofChange fnExactDiffRiskSpec)

/-- ITS FALSE NEIGHBOUR: 'it returns false'. Refute it at one input. -/
def fnExactDiffRiskWrong : ChangeSpec := { name := "fnExactDiffRisk", fn := fun _ => fun
  | [d1, d2, d3] => { results := [.lit (.bool false)], args := [d1, d2, d3] }
  | _ => none }
def FnExactDiffRiskWrongFalsely : Prop := fnExactDiffRiskRow.holds Try.pinned (OpenSpec.ofChange fnExactDiffRiskWrong)

/-- 'laws.FnDiffRisk': WHATEVER THE INPUT: true; the input reads as it did. -/
def fnDiffRiskSpec : ChangeSpec := { name := "fnDiffRisk", fn := fun _ => fun
  | [d] => { results := [.lit (.bool true)], args := [d] }
  | _ => none }
def fnDiffRiskRow : OpenClaim := { program := "ytfompehpoanhaaa", sum := "e2d33879bd9fc681aad043a9118eed8ceaf8eafce9fbf630da51136b97f7f3af", func := "loop.example/disclosurecontrol/laws.FnDiffRisk", spec := "fnDiffRisk", unfollowed := true, recurses := true, apart := false }
def FnDiffRiskSaid : Prop := fnDiffRiskRow.holds Try.pinned (OpenSpec.ofChange fnDiffRiskSpec)

/-- ITS FALSE NEIGHBOUR: 'it returns false'. Refute it at one input. -/
def fnDiffRiskWrong : ChangeSpec := { name := "fnDiffRisk", fn := fun _ => fun
  | [d] => { results := [.lit (.bool false)], args := [d] }
  | _ => none }
def FnDiffRiskWrongFalsely : Prop := fnDiffRiskRow.holds Try.pinned (OpenSpec.ofChange fnDiffRiskWrong)

/-- 'laws.FnDiffTurn': WHATEVER THE INPUT: true; the input reads as it did. -/
def fnDiffTurnSpec : ChangeSpec := { name := "fnDiffTurn", fn := fun _ => fun
  | [d] => { results := [.lit (.bool true)], args := [d] }
  | _ => none }
def fnDiffTurnRow : OpenClaim := { program := "ytfompehpoanhaaa", sum := "e2d33879bd9fc681aad043a9118eed8ceaf8eafce9fbf630da51136b97f7f3af", func := "loop.example/disclosurecontrol/laws.FnDiffTurn", spec := "fnDiffTurn", unfollowed := true, recurses := true, apart := false }
def FnDiffTurnSaid : Prop := fnDiffTurnRow.holds Try.pinned (OpenSpec.ofChange fnDiffTurnSpec)

/-- ITS FALSE NEIGHBOUR: 'it returns false'. Refute it at one input. -/
def fnDiffTurnWrong : ChangeSpec := { name := "fnDiffTurn", fn := fun _ => fun
  | [d] => { results := [.lit (.bool false)], args := [d] }
  | _ => none }
def FnDiffTurnWrongFalsely : Prop := fnDiffTurnRow.holds Try.pinned (OpenSpec.ofChange fnDiffTurnWrong)

/- THE SECOND FORM. 'bulk': how many values and letters a reading holds, each counted each time it is reached (what is shared counts as often as it is met; a slice's spare places count too). A statement '..UptoSaid' is the law's where the arguments, and the package variables that the reading takes, are together of bulk at most 1048576: NARROWER than '..Said'. Prove '..Said' where nothing that the law and all that it calls make is longer than what came in: it says more and counts as full. Else prove '..UptoSaid'. A law counts once. -/
mutual
def uptoBulk {H : Type} : DataW H → Nat
  | .lit (.string bytes) => bytes.length + 1
  | .lit _ => 1
  | .nil => 1
  | .ptr d => uptoBulk d + 1
  | .slice elems spare => uptoBulkAll elems + uptoBulkAll spare + 1
  | .agg parts => uptoBulkAll parts + 1
  | .iface _ d => uptoBulk d + 1
  | .map entries => uptoBulkEntries entries + 1
  | .held _ => 1
def uptoBulkAll {H : Type} : List (DataW H) → Nat
  | [] => 0
  | d :: r => uptoBulk d + uptoBulkAll r
def uptoBulkEntries {H : Type} : List (Lit × DataW H) → Nat
  | [] => 0
  | x :: r => uptoBulkEntry x + uptoBulkEntries r
def uptoBulkEntry {H : Type} : Lit × DataW H → Nat
  | (.string bytes, d) => bytes.length + uptoBulk d + 1
  | (_, d) => uptoBulk d + 1
 end
def uptoSmall : (H : Type) → List (DataW H) → Bool := fun _ ds => decide (uptoBulkAll ds ≤ 1048576)
def OpenSpec.upto (s : _root_.Go.ChangeSpec) : _root_.Go.OpenSpec := { _root_.Go.OpenSpec.ofChange s with cond := some uptoSmall }

/-- 'laws.FnDiffTwice', WHERE WHAT IT READS IS OF BULK AT MOST 1048576: true; the input reads as it did. -/
def fnDiffTwiceUptoRow : OpenClaim := { program := "ytfompehpoanhaaa", sum := "e2d33879bd9fc681aad043a9118eed8ceaf8eafce9fbf630da51136b97f7f3af", func := "loop.example/disclosurecontrol/laws.FnDiffTwice", spec := "fnDiffTwice", unfollowed := true, recurses := true, apart := false, narrowed := true }
def FnDiffTwiceUptoSaid : Prop := fnDiffTwiceUptoRow.holds Try.pinned (OpenSpec.upto fnDiffTwiceSpec)

/-- 'laws.FnExactDiffTable', WHERE WHAT IT READS IS OF BULK AT MOST 1048576: true; the input reads as it did. -/
def fnExactDiffTableUptoRow : OpenClaim := { program := "ytfompehpoanhaaa", sum := "e2d33879bd9fc681aad043a9118eed8ceaf8eafce9fbf630da51136b97f7f3af", func := "loop.example/disclosurecontrol/laws.FnExactDiffTable", spec := "fnExactDiffTable", unfollowed := true, recurses := true, apart := false, narrowed := true }
def FnExactDiffTableUptoSaid : Prop := fnExactDiffTableUptoRow.holds Try.pinned (OpenSpec.upto fnExactDiffTableSpec)

/-- 'laws.FnPatternCost', WHERE WHAT IT READS IS OF BULK AT MOST 1048576: true; the input reads as it did. -/
def fnPatternCostUptoRow : OpenClaim := { program := "ytfompehpoanhaaa", sum := "e2d33879bd9fc681aad043a9118eed8ceaf8eafce9fbf630da51136b97f7f3af", func := "loop.example/disclosurecontrol/laws.FnPatternCost", spec := "fnPatternCost", unfollowed := true, recurses := true, apart := false, narrowed := true }
def FnPatternCostUptoSaid : Prop := fnPatternCostUptoRow.holds Try.pinned (OpenSpec.upto fnPatternCostSpec)

/-- 'laws.FnExactPatternCost', WHERE WHAT IT READS IS OF BULK AT MOST 1048576: true; the input reads as it did. -/
def fnExactPatternCostUptoRow : OpenClaim := { program := "ytfompehpoanhaaa", sum := "e2d33879bd9fc681aad043a9118eed8ceaf8eafce9fbf630da51136b97f7f3af", func := "loop.example/disclosurecontrol/laws.FnExactPatternCost", spec := "fnExactPatternCost", unfollowed := true, recurses := true, apart := false, narrowed := true }
def FnExactPatternCostUptoSaid : Prop := fnExactPatternCostUptoRow.holds Try.pinned (OpenSpec.upto fnExactPatternCostSpec)

/-- 'laws.FnDiffRow', WHERE WHAT IT READS IS OF BULK AT MOST 1048576: true; the input reads as it did. -/
def fnDiffRowUptoRow : OpenClaim := { program := "ytfompehpoanhaaa", sum := "e2d33879bd9fc681aad043a9118eed8ceaf8eafce9fbf630da51136b97f7f3af", func := "loop.example/disclosurecontrol/laws.FnDiffRow", spec := "fnDiffRow", unfollowed := true, recurses := true, apart := false, narrowed := true }
def FnDiffRowUptoSaid : Prop := fnDiffRowUptoRow.holds Try.pinned (OpenSpec.upto fnDiffRowSpec)

/-- 'laws.FnDiff', WHERE WHAT IT READS IS OF BULK AT MOST 1048576: true; the input reads as it did. -/
def fnDiffUptoRow : OpenClaim := { program := "ytfompehpoanhaaa", sum := "e2d33879bd9fc681aad043a9118eed8ceaf8eafce9fbf630da51136b97f7f3af", func := "loop.example/disclosurecontrol/laws.FnDiff", spec := "fnDiff", unfollowed := true, recurses := true, apart := false, narrowed := true }
def FnDiffUptoSaid : Prop := fnDiffUptoRow.holds Try.pinned (OpenSpec.upto fnDiffSpec)

/-- 'laws.FnDiffFold', WHERE WHAT IT READS IS OF BULK AT MOST 1048576: true; the input reads as it did. -/
def fnDiffFoldUptoRow : OpenClaim := { program := "ytfompehpoanhaaa", sum := "e2d33879bd9fc681aad043a9118eed8ceaf8eafce9fbf630da51136b97f7f3af", func := "loop.example/disclosurecontrol/laws.FnDiffFold", spec := "fnDiffFold", unfollowed := true, recurses := true, apart := false, narrowed := true }
def FnDiffFoldUptoSaid : Prop := fnDiffFoldUptoRow.holds Try.pinned (OpenSpec.upto fnDiffFoldSpec)

/-- 'laws.FnExactDiffRisk', WHERE WHAT IT READS IS OF BULK AT MOST 1048576: true; the input reads as it did. -/
def fnExactDiffRiskUptoRow : OpenClaim := { program := "ytfompehpoanhaaa", sum := "e2d33879bd9fc681aad043a9118eed8ceaf8eafce9fbf630da51136b97f7f3af", func := "loop.example/disclosurecontrol/laws.FnExactDiffRisk", spec := "fnExactDiffRisk", unfollowed := true, recurses := true, apart := false, narrowed := true }
def FnExactDiffRiskUptoSaid : Prop := fnExactDiffRiskUptoRow.holds Try.pinned (OpenSpec.upto fnExactDiffRiskSpec)

/-- 'laws.FnDiffRisk', WHERE WHAT IT READS IS OF BULK AT MOST 1048576: true; the input reads as it did. -/
def fnDiffRiskUptoRow : OpenClaim := { program := "ytfompehpoanhaaa", sum := "e2d33879bd9fc681aad043a9118eed8ceaf8eafce9fbf630da51136b97f7f3af", func := "loop.example/disclosurecontrol/laws.FnDiffRisk", spec := "fnDiffRisk", unfollowed := true, recurses := true, apart := false, narrowed := true }
def FnDiffRiskUptoSaid : Prop := fnDiffRiskUptoRow.holds Try.pinned (OpenSpec.upto fnDiffRiskSpec)

/-- 'laws.FnDiffTurn', WHERE WHAT IT READS IS OF BULK AT MOST 1048576: true; the input reads as it did. -/
def fnDiffTurnUptoRow : OpenClaim := { program := "ytfompehpoanhaaa", sum := "e2d33879bd9fc681aad043a9118eed8ceaf8eafce9fbf630da51136b97f7f3af", func := "loop.example/disclosurecontrol/laws.FnDiffTurn", spec := "fnDiffTurn", unfollowed := true, recurses := true, apart := false, narrowed := true }
def FnDiffTurnUptoSaid : Prop := fnDiffTurnUptoRow.holds Try.pinned (OpenSpec.upto fnDiffTurnSpec)

end Rows
end Go.Proofs.Ytfompehpoanhaaa
