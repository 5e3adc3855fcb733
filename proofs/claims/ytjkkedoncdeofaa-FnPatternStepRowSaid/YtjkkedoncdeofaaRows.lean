/-
  No cell of these rows narrows 'for every input' (looked for: loops, veiled, ifaces, maps, wideKeys, modest, calm, conditions, laid).
  DERIVED. THE GIVEN ROWS OF THIS SEAT. 9 by the template 'for every input the law returns true; each argument reads behind the call as it read before'; 0 by the template 'total and deterministic' (their statements: YtjkkedoncdeofaaTotals.lean).
  GIVEN WITH THE SEED: the statements are not yours to turn. If you find one false, say at which input.
  Laid BY PROGRAM, IN A SANDBOX (cutbox-rows.mjs): the forced cells as the released guide's own fill.sh prints them over the translation eb830f556a8847df… (all of the seat's roots in one cut). By AI agents, Wed Nov 11 2026. No macro, syntax, notation, axiom, sorry.
-/
import Derived.Test.YtjkkedoncdeofaaChecked
import GoSem.Claim
import GoSem.ClaimJoined
import GoSem.ClaimMapViews
import Derived.JoinedTies
import Derived.KernelRfl
namespace Go.Proofs.Ytjkkedoncdeofaa
/- THE CELL 'sum', in the pinned program and in every row, IS THE sha256 OF THE DUMP (.gsa) THAT YtjkkedoncdeofaaProg.lean LOADS. Nothing in Lean hashes anything: it is a label: what it is worth is what the hold of that sum in a sandbox is worth. -/
noncomputable def Try.pinned : Pinned := { name := "ytjkkedoncdeofaa", sum := "eb830f556a8847df479013e3fcd0a5e1c865c67cacce7211a4f512f0dab78a9b", checked := Try.checked }
namespace Rows
def none {H : Type} : Left H := { results := [], args := [] }

/-- 'laws.FnPatternOkSmall': WHATEVER THE INPUT: true; the input reads as it did. -/
def fnPatternOkSmallSpec : ChangeSpec := { name := "fnPatternOkSmall", fn := fun _ => fun
  | [d] => { results := [.lit (.bool true)], args := [d] }
  | _ => none }
def fnPatternOkSmallRow : OpenClaim := { program := "ytjkkedoncdeofaa", sum := "eb830f556a8847df479013e3fcd0a5e1c865c67cacce7211a4f512f0dab78a9b", func := "loop.example/disclosurecontrol/laws.FnPatternOkSmall", spec := "fnPatternOkSmall", unfollowed := true, recurses := true, apart := false }
def FnPatternOkSmallSaid : Prop := fnPatternOkSmallRow.holds Try.pinned (OpenSpec.ofChange fnPatternOkSmallSpec)

/-- ITS FALSE NEIGHBOUR: 'it returns false'. Refute it at one input. -/
def fnPatternOkSmallWrong : ChangeSpec := { name := "fnPatternOkSmall", fn := fun _ => fun
  | [d] => { results := [.lit (.bool false)], args := [d] }
  | _ => none }
def FnPatternOkSmallWrongFalsely : Prop := fnPatternOkSmallRow.holds Try.pinned (OpenSpec.ofChange fnPatternOkSmallWrong)

/-- 'laws.FnPatternNeedMore': WHATEVER THE INPUT: true; the input reads as it did. -/
def fnPatternNeedMoreSpec : ChangeSpec := { name := "fnPatternNeedMore", fn := fun _ => fun
  | [d1, d2] => { results := [.lit (.bool true)], args := [d1, d2] }
  | _ => none }
def fnPatternNeedMoreRow : OpenClaim := { program := "ytjkkedoncdeofaa", sum := "eb830f556a8847df479013e3fcd0a5e1c865c67cacce7211a4f512f0dab78a9b", func := "loop.example/disclosurecontrol/laws.FnPatternNeedMore", spec := "fnPatternNeedMore", unfollowed := true, recurses := true, apart := false }
def FnPatternNeedMoreSaid : Prop := fnPatternNeedMoreRow.holds Try.pinned (OpenSpec.ofChange fnPatternNeedMoreSpec)

/-- ITS FALSE NEIGHBOUR: 'it returns false'. Refute it at one input. -/
def fnPatternNeedMoreWrong : ChangeSpec := { name := "fnPatternNeedMore", fn := fun _ => fun
  | [d1, d2] => { results := [.lit (.bool false)], args := [d1, d2] }
  | _ => none }
def FnPatternNeedMoreWrongFalsely : Prop := fnPatternNeedMoreRow.holds Try.pinned (OpenSpec.ofChange fnPatternNeedMoreWrong)

/-- 'laws.FnPatternNeed': WHATEVER THE INPUT: true; the input reads as it did. -/
def fnPatternNeedSpec : ChangeSpec := { name := "fnPatternNeed", fn := fun _ => fun
  | [d] => { results := [.lit (.bool true)], args := [d] }
  | _ => none }
def fnPatternNeedRow : OpenClaim := { program := "ytjkkedoncdeofaa", sum := "eb830f556a8847df479013e3fcd0a5e1c865c67cacce7211a4f512f0dab78a9b", func := "loop.example/disclosurecontrol/laws.FnPatternNeed", spec := "fnPatternNeed", unfollowed := true, recurses := true, apart := false }
def FnPatternNeedSaid : Prop := fnPatternNeedRow.holds Try.pinned (OpenSpec.ofChange fnPatternNeedSpec)

/-- ITS FALSE NEIGHBOUR: 'it returns false'. Refute it at one input. -/
def fnPatternNeedWrong : ChangeSpec := { name := "fnPatternNeed", fn := fun _ => fun
  | [d] => { results := [.lit (.bool false)], args := [d] }
  | _ => none }
def FnPatternNeedWrongFalsely : Prop := fnPatternNeedRow.holds Try.pinned (OpenSpec.ofChange fnPatternNeedWrong)

/-- 'laws.FnPatternOk': WHATEVER THE INPUT: true; the input reads as it did. -/
def fnPatternOkSpec : ChangeSpec := { name := "fnPatternOk", fn := fun _ => fun
  | [d1, d2] => { results := [.lit (.bool true)], args := [d1, d2] }
  | _ => none }
def fnPatternOkRow : OpenClaim := { program := "ytjkkedoncdeofaa", sum := "eb830f556a8847df479013e3fcd0a5e1c865c67cacce7211a4f512f0dab78a9b", func := "loop.example/disclosurecontrol/laws.FnPatternOk", spec := "fnPatternOk", unfollowed := true, recurses := true, apart := false }
def FnPatternOkSaid : Prop := fnPatternOkRow.holds Try.pinned (OpenSpec.ofChange fnPatternOkSpec)

/-- ITS FALSE NEIGHBOUR: 'it returns false'. Refute it at one input. -/
def fnPatternOkWrong : ChangeSpec := { name := "fnPatternOk", fn := fun _ => fun
  | [d1, d2] => { results := [.lit (.bool false)], args := [d1, d2] }
  | _ => none }
def FnPatternOkWrongFalsely : Prop := fnPatternOkRow.holds Try.pinned (OpenSpec.ofChange fnPatternOkWrong)

/-- 'laws.FnPatternNeedNone': WHATEVER THE INPUT: true; the input reads as it did. -/
def fnPatternNeedNoneSpec : ChangeSpec := { name := "fnPatternNeedNone", fn := fun _ => fun
  | [d] => { results := [.lit (.bool true)], args := [d] }
  | _ => none }
def fnPatternNeedNoneRow : OpenClaim := { program := "ytjkkedoncdeofaa", sum := "eb830f556a8847df479013e3fcd0a5e1c865c67cacce7211a4f512f0dab78a9b", func := "loop.example/disclosurecontrol/laws.FnPatternNeedNone", spec := "fnPatternNeedNone", unfollowed := true, recurses := true, apart := false }
def FnPatternNeedNoneSaid : Prop := fnPatternNeedNoneRow.holds Try.pinned (OpenSpec.ofChange fnPatternNeedNoneSpec)

/-- ITS FALSE NEIGHBOUR: 'it returns false'. Refute it at one input. -/
def fnPatternNeedNoneWrong : ChangeSpec := { name := "fnPatternNeedNone", fn := fun _ => fun
  | [d] => { results := [.lit (.bool false)], args := [d] }
  | _ => none }
def FnPatternNeedNoneWrongFalsely : Prop := fnPatternNeedNoneRow.holds Try.pinned (OpenSpec.ofChange fnPatternNeedNoneWrong)

/-- 'laws.FnPatternOkTurn': WHATEVER THE INPUT: true; the input reads as it did. -/
def fnPatternOkTurnSpec : ChangeSpec := { name := "fnPatternOkTurn", fn := fun _ => fun
  | [d1, d2] => { results := [.lit (.bool true)], args := [d1, d2] }
  | _ => none }
def fnPatternOkTurnRow : OpenClaim := { program := "ytjkkedoncdeofaa", sum := "eb830f556a8847df479013e3fcd0a5e1c865c67cacce7211a4f512f0dab78a9b", func := "loop.example/disclosurecontrol/laws.FnPatternOkTurn", spec := "fnPatternOkTurn", unfollowed := true, recurses := true, apart := false }
def FnPatternOkTurnSaid : Prop := fnPatternOkTurnRow.holds Try.pinned (OpenSpec.ofChange fnPatternOkTurnSpec)

/-- ITS FALSE NEIGHBOUR: 'it returns false'. Refute it at one input. -/
def fnPatternOkTurnWrong : ChangeSpec := { name := "fnPatternOkTurn", fn := fun _ => fun
  | [d1, d2] => { results := [.lit (.bool false)], args := [d1, d2] }
  | _ => none }
def FnPatternOkTurnWrongFalsely : Prop := fnPatternOkTurnRow.holds Try.pinned (OpenSpec.ofChange fnPatternOkTurnWrong)

/-- 'laws.FnPatternStep': WHATEVER THE INPUT: true; the input reads as it did. -/
def fnPatternStepSpec : ChangeSpec := { name := "fnPatternStep", fn := fun _ => fun
  | [d] => { results := [.lit (.bool true)], args := [d] }
  | _ => none }
def fnPatternStepRow : OpenClaim := { program := "ytjkkedoncdeofaa", sum := "eb830f556a8847df479013e3fcd0a5e1c865c67cacce7211a4f512f0dab78a9b", func := "loop.example/disclosurecontrol/laws.FnPatternStep", spec := "fnPatternStep", unfollowed := true, recurses := true, apart := false }
def FnPatternStepSaid : Prop := fnPatternStepRow.holds Try.pinned (OpenSpec.ofChange fnPatternStepSpec)

/-- ITS FALSE NEIGHBOUR: 'it returns false'. Refute it at one input. -/
def fnPatternStepWrong : ChangeSpec := { name := "fnPatternStep", fn := fun _ => fun
  | [d] => { results := [.lit (.bool false)], args := [d] }
  | _ => none }
def FnPatternStepWrongFalsely : Prop := fnPatternStepRow.holds Try.pinned (OpenSpec.ofChange fnPatternStepWrong)

/-- 'laws.FnPatternStepRow': WHATEVER THE INPUT: true; the input reads as it did. -/
def fnPatternStepRowSpec : ChangeSpec := { name := "fnPatternStepRow", fn := fun _ => fun
  | [d] => { results := [.lit (.bool true)], args := [d] }
  | _ => none }
def fnPatternStepRowRow : OpenClaim := { program := "ytjkkedoncdeofaa", sum := "eb830f556a8847df479013e3fcd0a5e1c865c67cacce7211a4f512f0dab78a9b", func := "loop.example/disclosurecontrol/laws.FnPatternStepRow", spec := "fnPatternStepRow", unfollowed := true, recurses := true, apart := false }
def FnPatternStepRowSaid : Prop := fnPatternStepRowRow.holds Try.pinned (OpenSpec.ofChange fnPatternStepRowSpec)

/-- ITS FALSE NEIGHBOUR: 'it returns false'. Refute it at one input. -/
def fnPatternStepRowWrong : ChangeSpec := { name := "fnPatternStepRow", fn := fun _ => fun
  | [d] => { results := [.lit (.bool false)], args := [d] }
  | _ => none }
def FnPatternStepRowWrongFalsely : Prop := fnPatternStepRowRow.holds Try.pinned (OpenSpec.ofChange fnPatternStepRowWrong)

/-- 'laws.FnExactPatternStep': WHATEVER THE INPUT: true; the input reads as it did. -/
def fnExactPatternStepSpec : ChangeSpec := { name := "fnExactPatternStep", fn := fun _ => fun
  | [d1, d2, d3, d4] => { results := [.lit (.bool true)], args := [d1, d2, d3, d4] }
  | _ => none }
def fnExactPatternStepRow : OpenClaim := { program := "ytjkkedoncdeofaa", sum := "eb830f556a8847df479013e3fcd0a5e1c865c67cacce7211a4f512f0dab78a9b", func := "loop.example/disclosurecontrol/laws.FnExactPatternStep", spec := "fnExactPatternStep", unfollowed := true, recurses := true, apart := false }
def FnExactPatternStepSaid : Prop := fnExactPatternStepRow.holds Try.pinned (OpenSpec.ofChange fnExactPatternStepSpec)

/-- ITS FALSE NEIGHBOUR: 'it returns false'. Refute it at one input. -/
def fnExactPatternStepWrong : ChangeSpec := { name := "fnExactPatternStep", fn := fun _ => fun
  | [d1, d2, d3, d4] => { results := [.lit (.bool false)], args := [d1, d2, d3, d4] }
  | _ => none }
def FnExactPatternStepWrongFalsely : Prop := fnExactPatternStepRow.holds Try.pinned (OpenSpec.ofChange fnExactPatternStepWrong)

/- THE SECOND FORM. 'bulk': how many values and letters a reading holds, each counted each time it is reached (what is shared counts as often as it is met; a slice's spare places count too). A statement '..UptoSaid' is the law's where the arguments, and the package variables that the reading takes, are together of bulk at most 1048576: NARROWER than '..Said'. Prove '..Said' where nothing that the law and all that it calls make is longer than what came in: it says more and counts as full. Else prove '..UptoSaid'. A law counts once. -/
mutual
def uptoBulk {H : Type} : DataW H → Nat
  | .lit (.string bytes) => bytes.length + 1
  | .lit _ => 1
  | .nil => 1
  | .ptr d => uptoBulk d + 1
  | .slice elems spare => uptoBulkAll elems + uptoBulkAll spare + 1
  | .agg parts => uptoBulkAll parts + 1
  | .iface _ d => uptoBulk d + 1
  | .map entries => uptoBulkEntries entries + 1
  | .held _ => 1
def uptoBulkAll {H : Type} : List (DataW H) → Nat
  | [] => 0
  | d :: r => uptoBulk d + uptoBulkAll r
def uptoBulkEntries {H : Type} : List (Lit × DataW H) → Nat
  | [] => 0
  | x :: r => uptoBulkEntry x + uptoBulkEntries r
def uptoBulkEntry {H : Type} : Lit × DataW H → Nat
  | (.string bytes, d) => bytes.length + uptoBulk d + 1
  | (_, d) => uptoBulk d + 1
 end
def uptoSmall : (H : Type) → List (DataW H) → Bool := fun _ ds => decide (uptoBulkAll ds ≤ 1048576)
def OpenSpec.upto (s : _root_.Go.ChangeSpec) : _root_.Go.OpenSpec := { _root_.Go.OpenSpec.ofChange s with cond := some uptoSmall }

/-- 'laws.FnPatternOkSmall', WHERE WHAT IT READS IS OF BULK AT MOST 1048576: true; the input reads as it did. -/
def fnPatternOkSmallUptoRow : OpenClaim := { program := "ytjkkedoncdeofaa", sum := "eb830f556a8847df479013e3fcd0a5e1c865c67cacce7211a4f512f0dab78a9b", func := "loop.example/disclosurecontrol/laws.FnPatternOkSmall", spec := "fnPatternOkSmall", unfollowed := true, recurses := true, apart := false, narrowed := true }
def FnPatternOkSmallUptoSaid : Prop := fnPatternOkSmallUptoRow.holds Try.pinned (OpenSpec.upto fnPatternOkSmallSpec)

/-- 'laws.FnPatternNeedMore', WHERE WHAT IT READS IS OF BULK AT MOST 1048576: true; the input reads as it did. -/
def fnPatternNeedMoreUptoRow : OpenClaim := { program := "ytjkkedoncdeofaa", sum := "eb830f556a8847df479013e3fcd0a5e1c865c67cacce7211a4f512f0dab78a9b", func := "loop.example/disclosurecontrol/laws.FnPatternNeedMore", spec := "fnPatternNeedMore", unfollowed := true, recurses := true, apart := false, narrowed := true }
def FnPatternNeedMoreUptoSaid : Prop := fnPatternNeedMoreUptoRow.holds Try.pinned (OpenSpec.upto fnPatternNeedMoreSpec)

/-- 'laws.FnPatternNeed', WHERE WHAT IT READS IS OF BULK AT MOST 1048576: true; the input reads as it did. -/
def fnPatternNeedUptoRow : OpenClaim := { program := "ytjkkedoncdeofaa", sum := "eb830f556a8847df479013e3fcd0a5e1c865c67cacce7211a4f512f0dab78a9b", func := "loop.example/disclosurecontrol/laws.FnPatternNeed", spec := "fnPatternNeed", unfollowed := true, recurses := true, apart := false, narrowed := true }
def FnPatternNeedUptoSaid : Prop := fnPatternNeedUptoRow.holds Try.pinned (OpenSpec.upto fnPatternNeedSpec)

/-- 'laws.FnPatternOk', WHERE WHAT IT READS IS OF BULK AT MOST 1048576: true; the input reads as it did. -/
def fnPatternOkUptoRow : OpenClaim := { program := "ytjkkedoncdeofaa", sum := "eb830f556a8847df479013e3fcd0a5e1c865c67cacce7211a4f512f0dab78a9b", func := "loop.example/disclosurecontrol/laws.FnPatternOk", spec := "fnPatternOk", unfollowed := true, recurses := true, apart := false, narrowed := true }
def FnPatternOkUptoSaid : Prop := fnPatternOkUptoRow.holds Try.pinned (OpenSpec.upto fnPatternOkSpec)

/-- 'laws.FnPatternNeedNone', WHERE WHAT IT READS IS OF BULK AT MOST 1048576: true; the input reads as it did. -/
def fnPatternNeedNoneUptoRow : OpenClaim := { program := "ytjkkedoncdeofaa", sum := "eb830f556a8847df479013e3fcd0a5e1c865c67cacce7211a4f512f0dab78a9b", func := "loop.example/disclosurecontrol/laws.FnPatternNeedNone", spec := "fnPatternNeedNone", unfollowed := true, recurses := true, apart := false, narrowed := true }
def FnPatternNeedNoneUptoSaid : Prop := fnPatternNeedNoneUptoRow.holds Try.pinned (OpenSpec.upto fnPatternNeedNoneSpec)

/-- 'laws.FnPatternOkTurn', WHERE WHAT IT READS IS OF BULK AT MOST 1048576: true; the input reads as it did. -/
def fnPatternOkTurnUptoRow : OpenClaim := { program := "ytjkkedoncdeofaa", sum := "eb830f556a8847df479013e3fcd0a5e1c865c67cacce7211a4f512f0dab78a9b", func := "loop.example/disclosurecontrol/laws.FnPatternOkTurn", spec := "fnPatternOkTurn", unfollowed := true, recurses := true, apart := false, narrowed := true }
def FnPatternOkTurnUptoSaid : Prop := fnPatternOkTurnUptoRow.holds Try.pinned (OpenSpec.upto fnPatternOkTurnSpec)

/-- 'laws.FnPatternStep', WHERE WHAT IT READS IS OF BULK AT MOST 1048576: true; the input reads as it did. -/
def fnPatternStepUptoRow : OpenClaim := { program := "ytjkkedoncdeofaa", sum := "eb830f556a8847df479013e3fcd0a5e1c865c67cacce7211a4f512f0dab78a9b", func := "loop.example/disclosurecontrol/laws.FnPatternStep", spec := "fnPatternStep", unfollowed := true, recurses := true, apart := false, narrowed := true }
def FnPatternStepUptoSaid : Prop := fnPatternStepUptoRow.holds Try.pinned (OpenSpec.upto fnPatternStepSpec)

/-- 'laws.FnPatternStepRow', WHERE WHAT IT READS IS OF BULK AT MOST 1048576: true; the input reads as it did. -/
def fnPatternStepRowUptoRow : OpenClaim := { program := "ytjkkedoncdeofaa", sum := "eb830f556a8847df479013e3fcd0a5e1c865c67cacce7211a4f512f0dab78a9b", func := "loop.example/disclosurecontrol/laws.FnPatternStepRow", spec := "fnPatternStepRow", unfollowed := true, recurses := true, apart := false, narrowed := true }
def FnPatternStepRowUptoSaid : Prop := fnPatternStepRowUptoRow.holds Try.pinned (OpenSpec.upto fnPatternStepRowSpec)

/-- 'laws.FnExactPatternStep', WHERE WHAT IT READS IS OF BULK AT MOST 1048576: true; the input reads as it did. -/
def fnExactPatternStepUptoRow : OpenClaim := { program := "ytjkkedoncdeofaa", sum := "eb830f556a8847df479013e3fcd0a5e1c865c67cacce7211a4f512f0dab78a9b", func := "loop.example/disclosurecontrol/laws.FnExactPatternStep", spec := "fnExactPatternStep", unfollowed := true, recurses := true, apart := false, narrowed := true }
def FnExactPatternStepUptoSaid : Prop := fnExactPatternStepUptoRow.holds Try.pinned (OpenSpec.upto fnExactPatternStepSpec)

end Rows
end Go.Proofs.Ytjkkedoncdeofaa
