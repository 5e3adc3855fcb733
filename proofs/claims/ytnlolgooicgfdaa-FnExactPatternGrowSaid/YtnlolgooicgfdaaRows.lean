/-
  No cell of these rows narrows 'for every input' (looked for: loops, veiled, ifaces, maps, wideKeys, modest, calm, conditions, laid).
  DERIVED. THE GIVEN ROWS OF THIS SEAT. 7 by the template 'for every input the law returns true; each argument reads behind the call as it read before'; 0 by the template 'total and deterministic' (their statements: YtnlolgooicgfdaaTotals.lean).
  GIVEN WITH THE SEED: the statements are not yours to turn. If you find one false, say at which input.
  Laid BY PROGRAM, IN A SANDBOX (cutbox-rows.mjs): the forced cells as the released guide's own fill.sh prints them over the translation 6f4bcffcc5886322… (all of the seat's roots in one cut). By AI agents, Wed Nov 11 2026. No macro, syntax, notation, axiom, sorry.
-/
import Derived.Test.YtnlolgooicgfdaaChecked
import GoSem.Claim
import GoSem.ClaimJoined
import GoSem.ClaimMapViews
import Derived.JoinedTies
import Derived.KernelRfl
namespace Go.Proofs.Ytnlolgooicgfdaa
/- THE CELL 'sum', in the pinned program and in every row, IS THE sha256 OF THE DUMP (.gsa) THAT YtnlolgooicgfdaaProg.lean LOADS. Nothing in Lean hashes anything: it is a label: what it is worth is what the hold of that sum in a sandbox is worth. -/
noncomputable def Try.pinned : Pinned := { name := "ytnlolgooicgfdaa", sum := "6f4bcffcc58863228aa04c1bd9935c9623f58653138404a26dcae7e78c367fff", checked := Try.checked }
namespace Rows
def none {H : Type} : Left H := { results := [], args := [] }

/-- 'laws.FnPatternGrowNone': WHATEVER THE INPUT: true; the input reads as it did. -/
def fnPatternGrowNoneSpec : ChangeSpec := { name := "fnPatternGrowNone", fn := fun _ => fun
  | [d] => { results := [.lit (.bool true)], args := [d] }
  | _ => none }
def fnPatternGrowNoneRow : OpenClaim := { program := "ytnlolgooicgfdaa", sum := "6f4bcffcc58863228aa04c1bd9935c9623f58653138404a26dcae7e78c367fff", func := "loop.example/disclosurecontrol/laws.FnPatternGrowNone", spec := "fnPatternGrowNone", unfollowed := true, recurses := true, apart := false }
def FnPatternGrowNoneSaid : Prop := fnPatternGrowNoneRow.holds Try.pinned (OpenSpec.ofChange fnPatternGrowNoneSpec)

/-- ITS FALSE NEIGHBOUR: 'it returns false'. Refute it at one input. -/
def fnPatternGrowNoneWrong : ChangeSpec := { name := "fnPatternGrowNone", fn := fun _ => fun
  | [d] => { results := [.lit (.bool false)], args := [d] }
  | _ => none }
def FnPatternGrowNoneWrongFalsely : Prop := fnPatternGrowNoneRow.holds Try.pinned (OpenSpec.ofChange fnPatternGrowNoneWrong)

/-- 'laws.FnPatternCostGrow': WHATEVER THE INPUT: true; the input reads as it did. -/
def fnPatternCostGrowSpec : ChangeSpec := { name := "fnPatternCostGrow", fn := fun _ => fun
  | [d] => { results := [.lit (.bool true)], args := [d] }
  | _ => none }
def fnPatternCostGrowRow : OpenClaim := { program := "ytnlolgooicgfdaa", sum := "6f4bcffcc58863228aa04c1bd9935c9623f58653138404a26dcae7e78c367fff", func := "loop.example/disclosurecontrol/laws.FnPatternCostGrow", spec := "fnPatternCostGrow", unfollowed := true, recurses := true, apart := false }
def FnPatternCostGrowSaid : Prop := fnPatternCostGrowRow.holds Try.pinned (OpenSpec.ofChange fnPatternCostGrowSpec)

/-- ITS FALSE NEIGHBOUR: 'it returns false'. Refute it at one input. -/
def fnPatternCostGrowWrong : ChangeSpec := { name := "fnPatternCostGrow", fn := fun _ => fun
  | [d] => { results := [.lit (.bool false)], args := [d] }
  | _ => none }
def FnPatternCostGrowWrongFalsely : Prop := fnPatternCostGrowRow.holds Try.pinned (OpenSpec.ofChange fnPatternCostGrowWrong)

/-- 'laws.FnExactPatternGrow': WHATEVER THE INPUT: true; the input reads as it did. -/
def fnExactPatternGrowSpec : ChangeSpec := { name := "fnExactPatternGrow", fn := fun _ => fun
  | [d1, d2, d3] => { results := [.lit (.bool true)], args := [d1, d2, d3] }
  | _ => none }
def fnExactPatternGrowRow : OpenClaim := { program := "ytnlolgooicgfdaa", sum := "6f4bcffcc58863228aa04c1bd9935c9623f58653138404a26dcae7e78c367fff", func := "loop.example/disclosurecontrol/laws.FnExactPatternGrow", spec := "fnExactPatternGrow", unfollowed := true, recurses := true, apart := false }
def FnExactPatternGrowSaid : Prop := fnExactPatternGrowRow.holds Try.pinned (OpenSpec.ofChange fnExactPatternGrowSpec)

/-- ITS FALSE NEIGHBOUR: 'it returns false'. Refute it at one input. -/
def fnExactPatternGrowWrong : ChangeSpec := { name := "fnExactPatternGrow", fn := fun _ => fun
  | [d1, d2, d3] => { results := [.lit (.bool false)], args := [d1, d2, d3] }
  | _ => none }
def FnExactPatternGrowWrongFalsely : Prop := fnExactPatternGrowRow.holds Try.pinned (OpenSpec.ofChange fnExactPatternGrowWrong)

/-- 'laws.FnPatternGrow': WHATEVER THE INPUT: true; the input reads as it did. -/
def fnPatternGrowSpec : ChangeSpec := { name := "fnPatternGrow", fn := fun _ => fun
  | [d] => { results := [.lit (.bool true)], args := [d] }
  | _ => none }
def fnPatternGrowRow : OpenClaim := { program := "ytnlolgooicgfdaa", sum := "6f4bcffcc58863228aa04c1bd9935c9623f58653138404a26dcae7e78c367fff", func := "loop.example/disclosurecontrol/laws.FnPatternGrow", spec := "fnPatternGrow", unfollowed := true, recurses := true, apart := false }
def FnPatternGrowSaid : Prop := fnPatternGrowRow.holds Try.pinned (OpenSpec.ofChange fnPatternGrowSpec)

/-- ITS FALSE NEIGHBOUR: 'it returns false'. Refute it at one input. -/
def fnPatternGrowWrong : ChangeSpec := { name := "fnPatternGrow", fn := fun _ => fun
  | [d] => { results := [.lit (.bool false)], args := [d] }
  | _ => none }
def FnPatternGrowWrongFalsely : Prop := fnPatternGrowRow.holds Try.pinned (OpenSpec.ofChange fnPatternGrowWrong)

/-- 'laws.FnPatternGrowStep': WHATEVER THE INPUT: true; the input reads as it did. -/
def fnPatternGrowStepSpec : ChangeSpec := { name := "fnPatternGrowStep", fn := fun _ => fun
  | [d] => { results := [.lit (.bool true)], args := [d] }
  | _ => none }
def fnPatternGrowStepRow : OpenClaim := { program := "ytnlolgooicgfdaa", sum := "6f4bcffcc58863228aa04c1bd9935c9623f58653138404a26dcae7e78c367fff", func := "loop.example/disclosurecontrol/laws.FnPatternGrowStep", spec := "fnPatternGrowStep", unfollowed := true, recurses := true, apart := false }
def FnPatternGrowStepSaid : Prop := fnPatternGrowStepRow.holds Try.pinned (OpenSpec.ofChange fnPatternGrowStepSpec)

/-- ITS FALSE NEIGHBOUR: 'it returns false'. Refute it at one input. -/
def fnPatternGrowStepWrong : ChangeSpec := { name := "fnPatternGrowStep", fn := fun _ => fun
  | [d] => { results := [.lit (.bool false)], args := [d] }
  | _ => none }
def FnPatternGrowStepWrongFalsely : Prop := fnPatternGrowStepRow.holds Try.pinned (OpenSpec.ofChange fnPatternGrowStepWrong)

/-- 'laws.FnPatternFail': WHATEVER THE INPUT: true; the input reads as it did. -/
def fnPatternFailSpec : ChangeSpec := { name := "fnPatternFail", fn := fun _ => fun
  | [d] => { results := [.lit (.bool true)], args := [d] }
  | _ => none }
def fnPatternFailRow : OpenClaim := { program := "ytnlolgooicgfdaa", sum := "6f4bcffcc58863228aa04c1bd9935c9623f58653138404a26dcae7e78c367fff", func := "loop.example/disclosurecontrol/laws.FnPatternFail", spec := "fnPatternFail", unfollowed := true, recurses := true, apart := false }
def FnPatternFailSaid : Prop := fnPatternFailRow.holds Try.pinned (OpenSpec.ofChange fnPatternFailSpec)

/-- ITS FALSE NEIGHBOUR: 'it returns false'. Refute it at one input. -/
def fnPatternFailWrong : ChangeSpec := { name := "fnPatternFail", fn := fun _ => fun
  | [d] => { results := [.lit (.bool false)], args := [d] }
  | _ => none }
def FnPatternFailWrongFalsely : Prop := fnPatternFailRow.holds Try.pinned (OpenSpec.ofChange fnPatternFailWrong)

/-- 'laws.FnPatternLine': WHATEVER THE INPUT: true; the input reads as it did. -/
def fnPatternLineSpec : ChangeSpec := { name := "fnPatternLine", fn := fun _ => fun
  | [d] => { results := [.lit (.bool true)], args := [d] }
  | _ => none }
def fnPatternLineRow : OpenClaim := { program := "ytnlolgooicgfdaa", sum := "6f4bcffcc58863228aa04c1bd9935c9623f58653138404a26dcae7e78c367fff", func := "loop.example/disclosurecontrol/laws.FnPatternLine", spec := "fnPatternLine", unfollowed := true, recurses := true, apart := false }
def FnPatternLineSaid : Prop := fnPatternLineRow.holds Try.pinned (OpenSpec.ofChange fnPatternLineSpec)

/-- ITS FALSE NEIGHBOUR: 'it returns false'. Refute it at one input. -/
def fnPatternLineWrong : ChangeSpec := { name := "fnPatternLine", fn := fun _ => fun
  | [d] => { results := [.lit (.bool false)], args := [d] }
  | _ => none }
def FnPatternLineWrongFalsely : Prop := fnPatternLineRow.holds Try.pinned (OpenSpec.ofChange fnPatternLineWrong)

/- THE SECOND FORM. 'bulk': how many values and letters a reading holds, each counted each time it is reached (what is shared counts as often as it is met; a slice's spare places count too). A statement '..UptoSaid' is the law's where the arguments, and the package variables that the reading takes, are together of bulk at most 1048576: NARROWER than '..Said'. Prove '..Said' where nothing that the law and all that it calls make is longer than what came in: it says more and counts as full. Else prove '..UptoSaid'. A law counts once. -/
mutual
def uptoBulk {H : Type} : DataW H → Nat
  | .lit (.string bytes) => bytes.length + 1
  | .lit _ => 1
  | .nil => 1
  | .ptr d => uptoBulk d + 1
  | .slice elems spare => uptoBulkAll elems + uptoBulkAll spare + 1
  | .agg parts => uptoBulkAll parts + 1
  | .iface _ d => uptoBulk d + 1
  | .map entries => uptoBulkEntries entries + 1
  | .held _ => 1
def uptoBulkAll {H : Type} : List (DataW H) → Nat
  | [] => 0
  | d :: r => uptoBulk d + uptoBulkAll r
def uptoBulkEntries {H : Type} : List (Lit × DataW H) → Nat
  | [] => 0
  | x :: r => uptoBulkEntry x + uptoBulkEntries r
def uptoBulkEntry {H : Type} : Lit × DataW H → Nat
  | (.string bytes, d) => bytes.length + uptoBulk d + 1
  | (_, d) => uptoBulk d + 1
 end
def uptoSmall : (H : Type) → List (DataW H) → Bool := fun _ ds => decide (uptoBulkAll ds ≤ 1048576)
def OpenSpec.upto (s : _root_.Go.ChangeSpec) : _root_.Go.OpenSpec := { _root_.Go.OpenSpec.ofChange s with cond := some uptoSmall }

/-- 'laws.FnPatternGrowNone', WHERE WHAT IT READS IS OF BULK AT MOST 1048576: true; the input reads as it did. -/
def fnPatternGrowNoneUptoRow : OpenClaim := { program := "ytnlolgooicgfdaa", sum := "6f4bcffcc58863228aa04c1bd9935c9623f58653138404a26dcae7e78c367fff", func := "loop.example/disclosurecontrol/laws.FnPatternGrowNone", spec := "fnPatternGrowNone", unfollowed := true, recurses := true, apart := false, narrowed := true }
def FnPatternGrowNoneUptoSaid : Prop := fnPatternGrowNoneUptoRow.holds Try.pinned (OpenSpec.upto fnPatternGrowNoneSpec)

/-- 'laws.FnPatternCostGrow', WHERE WHAT IT READS IS OF BULK AT MOST 1048576: true; the input reads as it did. -/
def fnPatternCostGrowUptoRow : OpenClaim := { program := "ytnlolgooicgfdaa", sum := "6f4bcffcc58863228aa04c1bd9935c9623f58653138404a26dcae7e78c367fff", func := "loop.example/disclosurecontrol/laws.FnPatternCostGrow", spec := "fnPatternCostGrow", unfollowed := true, recurses := true, apart := false, narrowed := true }
def FnPatternCostGrowUptoSaid : Prop := fnPatternCostGrowUptoRow.holds Try.pinned (OpenSpec.upto fnPatternCostGrowSpec)

/-- 'laws.FnExactPatternGrow', WHERE WHAT IT READS IS OF BULK AT MOST 1048576: true; the input reads as it did. -/
def fnExactPatternGrowUptoRow : OpenClaim := { program := "ytnlolgooicgfdaa", sum := "6f4bcffcc58863228aa04c1bd9935c9623f58653138404a26dcae7e78c367fff", func := "loop.example/disclosurecontrol/laws.FnExactPatternGrow", spec := "fnExactPatternGrow", unfollowed := true, recurses := true, apart := false, narrowed := true }
def FnExactPatternGrowUptoSaid : Prop := fnExactPatternGrowUptoRow.holds Try.pinned (OpenSpec.upto fnExactPatternGrowSpec)

/-- 'laws.FnPatternGrow', WHERE WHAT IT READS IS OF BULK AT MOST 1048576: true; the input reads as it did. -/
def fnPatternGrowUptoRow : OpenClaim := { program := "ytnlolgooicgfdaa", sum := "6f4bcffcc58863228aa04c1bd9935c9623f58653138404a26dcae7e78c367fff", func := "loop.example/disclosurecontrol/laws.FnPatternGrow", spec := "fnPatternGrow", unfollowed := true, recurses := true, apart := false, narrowed := true }
def FnPatternGrowUptoSaid : Prop := fnPatternGrowUptoRow.holds Try.pinned (OpenSpec.upto fnPatternGrowSpec)

/-- 'laws.FnPatternGrowStep', WHERE WHAT IT READS IS OF BULK AT MOST 1048576: true; the input reads as it did. -/
def fnPatternGrowStepUptoRow : OpenClaim := { program := "ytnlolgooicgfdaa", sum := "6f4bcffcc58863228aa04c1bd9935c9623f58653138404a26dcae7e78c367fff", func := "loop.example/disclosurecontrol/laws.FnPatternGrowStep", spec := "fnPatternGrowStep", unfollowed := true, recurses := true, apart := false, narrowed := true }
def FnPatternGrowStepUptoSaid : Prop := fnPatternGrowStepUptoRow.holds Try.pinned (OpenSpec.upto fnPatternGrowStepSpec)

/-- 'laws.FnPatternFail', WHERE WHAT IT READS IS OF BULK AT MOST 1048576: true; the input reads as it did. -/
def fnPatternFailUptoRow : OpenClaim := { program := "ytnlolgooicgfdaa", sum := "6f4bcffcc58863228aa04c1bd9935c9623f58653138404a26dcae7e78c367fff", func := "loop.example/disclosurecontrol/laws.FnPatternFail", spec := "fnPatternFail", unfollowed := true, recurses := true, apart := false, narrowed := true }
def FnPatternFailUptoSaid : Prop := fnPatternFailUptoRow.holds Try.pinned (OpenSpec.upto fnPatternFailSpec)

/-- 'laws.FnPatternLine', WHERE WHAT IT READS IS OF BULK AT MOST 1048576: true; the input reads as it did. -/
def fnPatternLineUptoRow : OpenClaim := { program := "ytnlolgooicgfdaa", sum := "6f4bcffcc58863228aa04c1bd9935c9623f58653138404a26dcae7e78c367fff", func := "loop.example/disclosurecontrol/laws.FnPatternLine", spec := "fnPatternLine", unfollowed := true, recurses := true, apart := false, narrowed := true }
def FnPatternLineUptoSaid : Prop := fnPatternLineUptoRow.holds Try.pinned (OpenSpec.upto fnPatternLineSpec)

end Rows
end Go.Proofs.Ytnlolgooicgfdaa
