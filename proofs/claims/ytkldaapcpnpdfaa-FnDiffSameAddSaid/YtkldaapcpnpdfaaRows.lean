/-
  No cell of these rows narrows 'for every input' (looked for: loops, veiled, ifaces, maps, wideKeys, modest, calm, conditions, laid).
  DERIVED. THE GIVEN ROWS OF THIS SEAT. 8 by the template 'for every input the law returns true; each argument reads behind the call as it read before'; 0 by the template 'total and deterministic' (their statements: YtkldaapcpnpdfaaTotals.lean).
  GIVEN WITH THE SEED: the statements are not yours to turn. If you find one false, say at which input.
  Laid BY PROGRAM, IN A SANDBOX (cutbox-rows.mjs): the forced cells as the released guide's own fill.sh prints them over the translation 11c63f5a9600d70b… (all of the seat's roots in one cut). By AI agents, Wed Nov 11 2026. No macro, syntax, notation, axiom, sorry.
-/
import Derived.Test.YtkldaapcpnpdfaaChecked
import GoSem.Claim
import GoSem.ClaimJoined
import GoSem.ClaimMapViews
import Derived.JoinedTies
import Derived.KernelRfl
namespace Go.Proofs.Ytkldaapcpnpdfaa
/- THE CELL 'sum', in the pinned program and in every row, IS THE sha256 OF THE DUMP (.gsa) THAT YtkldaapcpnpdfaaProg.lean LOADS. Nothing in Lean hashes anything: it is a label: what it is worth is what the hold of that sum in a sandbox is worth. -/
noncomputable def Try.pinned : Pinned := { name := "ytkldaapcpnpdfaa", sum := "11c63f5a9600d70b17a44bcd378d44f519e04aaf58abfd0781df911f1d118f1f", checked := Try.checked }
namespace Rows
def none {H : Type} : Left H := { results := [], args := [] }

/-- 'laws.FnDiffPeopleAll': WHATEVER THE INPUT: true; the input reads as it did. -/
def fnDiffPeopleAllSpec : ChangeSpec := { name := "fnDiffPeopleAll", fn := fun _ => fun
  | [d1, d2] => { results := [.lit (.bool true)], args := [d1, d2] }
  | _ => none }
def fnDiffPeopleAllRow : OpenClaim := { program := "ytkldaapcpnpdfaa", sum := "11c63f5a9600d70b17a44bcd378d44f519e04aaf58abfd0781df911f1d118f1f", func := "loop.example/disclosurecontrol/laws.FnDiffPeopleAll", spec := "fnDiffPeopleAll", plainKeys := false, apart := false }
def FnDiffPeopleAllSaid : Prop := fnDiffPeopleAllRow.holds Try.pinned (OpenSpec.ofChange fnDiffPeopleAllSpec)

/-- ITS FALSE NEIGHBOUR: 'it returns false'. Refute it at one input. -/
def fnDiffPeopleAllWrong : ChangeSpec := { name := "fnDiffPeopleAll", fn := fun _ => fun
  | [d1, d2] => { results := [.lit (.bool false)], args := [d1, d2] }
  | _ => none }
def FnDiffPeopleAllWrongFalsely : Prop := fnDiffPeopleAllRow.holds Try.pinned (OpenSpec.ofChange fnDiffPeopleAllWrong)

/-- 'laws.FnExactDiffSame': WHATEVER THE INPUT: true; the input reads as it did. -/
def fnExactDiffSameSpec : ChangeSpec := { name := "fnExactDiffSame", fn := fun _ => fun
  | [d1, d2] => { results := [.lit (.bool true)], args := [d1, d2] }
  | _ => none }
def fnExactDiffSameRow : OpenClaim := { program := "ytkldaapcpnpdfaa", sum := "11c63f5a9600d70b17a44bcd378d44f519e04aaf58abfd0781df911f1d118f1f", func := "loop.example/disclosurecontrol/laws.FnExactDiffSame", spec := "fnExactDiffSame", plainKeys := false, apart := false }
def FnExactDiffSameSaid : Prop := fnExactDiffSameRow.holds Try.pinned (OpenSpec.ofChange fnExactDiffSameSpec)

/-- ITS FALSE NEIGHBOUR: 'it returns false'. Refute it at one input. -/
def fnExactDiffSameWrong : ChangeSpec := { name := "fnExactDiffSame", fn := fun _ => fun
  | [d1, d2] => { results := [.lit (.bool false)], args := [d1, d2] }
  | _ => none }
def FnExactDiffSameWrongFalsely : Prop := fnExactDiffSameRow.holds Try.pinned (OpenSpec.ofChange fnExactDiffSameWrong)

/-- 'laws.FnExactDiffPeople': WHATEVER THE INPUT: true; the input reads as it did. -/
def fnExactDiffPeopleSpec : ChangeSpec := { name := "fnExactDiffPeople", fn := fun _ => fun
  | [d1, d2] => { results := [.lit (.bool true)], args := [d1, d2] }
  | _ => none }
def fnExactDiffPeopleRow : OpenClaim := { program := "ytkldaapcpnpdfaa", sum := "11c63f5a9600d70b17a44bcd378d44f519e04aaf58abfd0781df911f1d118f1f", func := "loop.example/disclosurecontrol/laws.FnExactDiffPeople", spec := "fnExactDiffPeople", plainKeys := false, apart := false }
def FnExactDiffPeopleSaid : Prop := fnExactDiffPeopleRow.holds Try.pinned (OpenSpec.ofChange fnExactDiffPeopleSpec)

/-- ITS FALSE NEIGHBOUR: 'it returns false'. Refute it at one input. -/
def fnExactDiffPeopleWrong : ChangeSpec := { name := "fnExactDiffPeople", fn := fun _ => fun
  | [d1, d2] => { results := [.lit (.bool false)], args := [d1, d2] }
  | _ => none }
def FnExactDiffPeopleWrongFalsely : Prop := fnExactDiffPeopleRow.holds Try.pinned (OpenSpec.ofChange fnExactDiffPeopleWrong)

/-- 'laws.FnDiffPeopleOrder': WHATEVER THE INPUT: true; the input reads as it did. -/
def fnDiffPeopleOrderSpec : ChangeSpec := { name := "fnDiffPeopleOrder", fn := fun _ => fun
  | [d1, d2] => { results := [.lit (.bool true)], args := [d1, d2] }
  | _ => none }
def fnDiffPeopleOrderRow : OpenClaim := { program := "ytkldaapcpnpdfaa", sum := "11c63f5a9600d70b17a44bcd378d44f519e04aaf58abfd0781df911f1d118f1f", func := "loop.example/disclosurecontrol/laws.FnDiffPeopleOrder", spec := "fnDiffPeopleOrder", plainKeys := false, apart := false }
def FnDiffPeopleOrderSaid : Prop := fnDiffPeopleOrderRow.holds Try.pinned (OpenSpec.ofChange fnDiffPeopleOrderSpec)

/-- ITS FALSE NEIGHBOUR: 'it returns false'. Refute it at one input. -/
def fnDiffPeopleOrderWrong : ChangeSpec := { name := "fnDiffPeopleOrder", fn := fun _ => fun
  | [d1, d2] => { results := [.lit (.bool false)], args := [d1, d2] }
  | _ => none }
def FnDiffPeopleOrderWrongFalsely : Prop := fnDiffPeopleOrderRow.holds Try.pinned (OpenSpec.ofChange fnDiffPeopleOrderWrong)

/-- 'laws.FnDiffSameAdd': WHATEVER THE INPUT: true; the input reads as it did. -/
def fnDiffSameAddSpec : ChangeSpec := { name := "fnDiffSameAdd", fn := fun _ => fun
  | [d1, d2] => { results := [.lit (.bool true)], args := [d1, d2] }
  | _ => none }
def fnDiffSameAddRow : OpenClaim := { program := "ytkldaapcpnpdfaa", sum := "11c63f5a9600d70b17a44bcd378d44f519e04aaf58abfd0781df911f1d118f1f", func := "loop.example/disclosurecontrol/laws.FnDiffSameAdd", spec := "fnDiffSameAdd", plainKeys := false, apart := false }
def FnDiffSameAddSaid : Prop := fnDiffSameAddRow.holds Try.pinned (OpenSpec.ofChange fnDiffSameAddSpec)

/-- ITS FALSE NEIGHBOUR: 'it returns false'. Refute it at one input. -/
def fnDiffSameAddWrong : ChangeSpec := { name := "fnDiffSameAdd", fn := fun _ => fun
  | [d1, d2] => { results := [.lit (.bool false)], args := [d1, d2] }
  | _ => none }
def FnDiffSameAddWrongFalsely : Prop := fnDiffSameAddRow.holds Try.pinned (OpenSpec.ofChange fnDiffSameAddWrong)

/-- 'laws.FnDiffSame': WHATEVER THE INPUT: true; the input reads as it did. -/
def fnDiffSameSpec : ChangeSpec := { name := "fnDiffSame", fn := fun _ => fun
  | [d] => { results := [.lit (.bool true)], args := [d] }
  | _ => none }
def fnDiffSameRow : OpenClaim := { program := "ytkldaapcpnpdfaa", sum := "11c63f5a9600d70b17a44bcd378d44f519e04aaf58abfd0781df911f1d118f1f", func := "loop.example/disclosurecontrol/laws.FnDiffSame", spec := "fnDiffSame", plainKeys := false, apart := false }
def FnDiffSameSaid : Prop := fnDiffSameRow.holds Try.pinned (OpenSpec.ofChange fnDiffSameSpec)

/-- ITS FALSE NEIGHBOUR: 'it returns false'. Refute it at one input. -/
def fnDiffSameWrong : ChangeSpec := { name := "fnDiffSame", fn := fun _ => fun
  | [d] => { results := [.lit (.bool false)], args := [d] }
  | _ => none }
def FnDiffSameWrongFalsely : Prop := fnDiffSameRow.holds Try.pinned (OpenSpec.ofChange fnDiffSameWrong)

/-- 'laws.FnTableOfOrder': WHATEVER THE INPUT: true; the input reads as it did. -/
def fnTableOfOrderSpec : ChangeSpec := { name := "fnTableOfOrder", fn := fun _ => fun
  | [d1, d2] => { results := [.lit (.bool true)], args := [d1, d2] }
  | _ => none }
def fnTableOfOrderRow : OpenClaim := { program := "ytkldaapcpnpdfaa", sum := "11c63f5a9600d70b17a44bcd378d44f519e04aaf58abfd0781df911f1d118f1f", func := "loop.example/disclosurecontrol/laws.FnTableOfOrder", spec := "fnTableOfOrder", unfollowed := true, recurses := true, plainKeys := false, apart := false }
def FnTableOfOrderSaid : Prop := fnTableOfOrderRow.holds Try.pinned (OpenSpec.ofChange fnTableOfOrderSpec)

/-- ITS FALSE NEIGHBOUR: 'it returns false'. Refute it at one input. -/
def fnTableOfOrderWrong : ChangeSpec := { name := "fnTableOfOrder", fn := fun _ => fun
  | [d1, d2] => { results := [.lit (.bool false)], args := [d1, d2] }
  | _ => none }
def FnTableOfOrderWrongFalsely : Prop := fnTableOfOrderRow.holds Try.pinned (OpenSpec.ofChange fnTableOfOrderWrong)

/-- 'laws.FnDiffPeople': WHATEVER THE INPUT: true; the input reads as it did. -/
def fnDiffPeopleSpec : ChangeSpec := { name := "fnDiffPeople", fn := fun _ => fun
  | [d] => { results := [.lit (.bool true)], args := [d] }
  | _ => none }
def fnDiffPeopleRow : OpenClaim := { program := "ytkldaapcpnpdfaa", sum := "11c63f5a9600d70b17a44bcd378d44f519e04aaf58abfd0781df911f1d118f1f", func := "loop.example/disclosurecontrol/laws.FnDiffPeople", spec := "fnDiffPeople", unfollowed := true, recurses := true, plainKeys := false, apart := false }
def FnDiffPeopleSaid : Prop := fnDiffPeopleRow.holds Try.pinned (OpenSpec.ofChange fnDiffPeopleSpec)

/-- ITS FALSE NEIGHBOUR: 'it returns false'. Refute it at one input. -/
def fnDiffPeopleWrong : ChangeSpec := { name := "fnDiffPeople", fn := fun _ => fun
  | [d] => { results := [.lit (.bool false)], args := [d] }
  | _ => none }
def FnDiffPeopleWrongFalsely : Prop := fnDiffPeopleRow.holds Try.pinned (OpenSpec.ofChange fnDiffPeopleWrong)

/- THE SECOND FORM. 'bulk': how many values and letters a reading holds, each counted each time it is reached (what is shared counts as often as it is met; a slice's spare places count too). A statement '..UptoSaid' is the law's where the arguments, and the package variables that the reading takes, are together of bulk at most 1048576: NARROWER than '..Said'. Prove '..Said' where nothing that the law and all that it calls make is longer than what came in: it says more and counts as full. Else prove '..UptoSaid'. A law counts once. -/
mutual
def uptoBulk {H : Type} : DataW H → Nat
  | .lit (.string bytes) => bytes.length + 1
  | .lit _ => 1
  | .nil => 1
  | .ptr d => uptoBulk d + 1
  | .slice elems spare => uptoBulkAll elems + uptoBulkAll spare + 1
  | .agg parts => uptoBulkAll parts + 1
  | .iface _ d => uptoBulk d + 1
  | .map entries => uptoBulkEntries entries + 1
  | .held _ => 1
def uptoBulkAll {H : Type} : List (DataW H) → Nat
  | [] => 0
  | d :: r => uptoBulk d + uptoBulkAll r
def uptoBulkEntries {H : Type} : List (Lit × DataW H) → Nat
  | [] => 0
  | x :: r => uptoBulkEntry x + uptoBulkEntries r
def uptoBulkEntry {H : Type} : Lit × DataW H → Nat
  | (.string bytes, d) => bytes.length + uptoBulk d + 1
  | (_, d) => uptoBulk d + 1
 end
def uptoSmall : (H : Type) → List (DataW H) → Bool := fun _ ds => decide (uptoBulkAll ds ≤ 1048576)
def OpenSpec.upto (s : _root_.Go.ChangeSpec) : _root_.Go.OpenSpec := { _root_.Go.OpenSpec.ofChange s with cond := some uptoSmall }

/-- 'laws.FnDiffPeopleAll', WHERE WHAT IT READS IS OF BULK AT MOST 1048576: true; the input reads as it did. -/
def fnDiffPeopleAllUptoRow : OpenClaim := { program := "ytkldaapcpnpdfaa", sum := "11c63f5a9600d70b17a44bcd378d44f519e04aaf58abfd0781df911f1d118f1f", func := "loop.example/disclosurecontrol/laws.FnDiffPeopleAll", spec := "fnDiffPeopleAll", plainKeys := false, apart := false, narrowed := true }
def FnDiffPeopleAllUptoSaid : Prop := fnDiffPeopleAllUptoRow.holds Try.pinned (OpenSpec.upto fnDiffPeopleAllSpec)

/-- 'laws.FnExactDiffSame', WHERE WHAT IT READS IS OF BULK AT MOST 1048576: true; the input reads as it did. -/
def fnExactDiffSameUptoRow : OpenClaim := { program := "ytkldaapcpnpdfaa", sum := "11c63f5a9600d70b17a44bcd378d44f519e04aaf58abfd0781df911f1d118f1f", func := "loop.example/disclosurecontrol/laws.FnExactDiffSame", spec := "fnExactDiffSame", plainKeys := false, apart := false, narrowed := true }
def FnExactDiffSameUptoSaid : Prop := fnExactDiffSameUptoRow.holds Try.pinned (OpenSpec.upto fnExactDiffSameSpec)

/-- 'laws.FnExactDiffPeople', WHERE WHAT IT READS IS OF BULK AT MOST 1048576: true; the input reads as it did. -/
def fnExactDiffPeopleUptoRow : OpenClaim := { program := "ytkldaapcpnpdfaa", sum := "11c63f5a9600d70b17a44bcd378d44f519e04aaf58abfd0781df911f1d118f1f", func := "loop.example/disclosurecontrol/laws.FnExactDiffPeople", spec := "fnExactDiffPeople", plainKeys := false, apart := false, narrowed := true }
def FnExactDiffPeopleUptoSaid : Prop := fnExactDiffPeopleUptoRow.holds Try.pinned (OpenSpec.upto fnExactDiffPeopleSpec)

/-- 'laws.FnDiffPeopleOrder', WHERE WHAT IT READS IS OF BULK AT MOST 1048576: true; the input reads as it did. -/
def fnDiffPeopleOrderUptoRow : OpenClaim := { program := "ytkldaapcpnpdfaa", sum := "11c63f5a9600d70b17a44bcd378d44f519e04aaf58abfd0781df911f1d118f1f", func := "loop.example/disclosurecontrol/laws.FnDiffPeopleOrder", spec := "fnDiffPeopleOrder", plainKeys := false, apart := false, narrowed := true }
def FnDiffPeopleOrderUptoSaid : Prop := fnDiffPeopleOrderUptoRow.holds Try.pinned (OpenSpec.upto fnDiffPeopleOrderSpec)

/-- 'laws.FnDiffSameAdd', WHERE WHAT IT READS IS OF BULK AT MOST 1048576: true; the input reads as it did. -/
def fnDiffSameAddUptoRow : OpenClaim := { program := "ytkldaapcpnpdfaa", sum := "11c63f5a9600d70b17a44bcd378d44f519e04aaf58abfd0781df911f1d118f1f", func := "loop.example/disclosurecontrol/laws.FnDiffSameAdd", spec := "fnDiffSameAdd", plainKeys := false, apart := false, narrowed := true }
def FnDiffSameAddUptoSaid : Prop := fnDiffSameAddUptoRow.holds Try.pinned (OpenSpec.upto fnDiffSameAddSpec)

/-- 'laws.FnDiffSame', WHERE WHAT IT READS IS OF BULK AT MOST 1048576: true; the input reads as it did. -/
def fnDiffSameUptoRow : OpenClaim := { program := "ytkldaapcpnpdfaa", sum := "11c63f5a9600d70b17a44bcd378d44f519e04aaf58abfd0781df911f1d118f1f", func := "loop.example/disclosurecontrol/laws.FnDiffSame", spec := "fnDiffSame", plainKeys := false, apart := false, narrowed := true }
def FnDiffSameUptoSaid : Prop := fnDiffSameUptoRow.holds Try.pinned (OpenSpec.upto fnDiffSameSpec)

/-- 'laws.FnTableOfOrder', WHERE WHAT IT READS IS OF BULK AT MOST 1048576: true; the input reads as it did. -/
def fnTableOfOrderUptoRow : OpenClaim := { program := "ytkldaapcpnpdfaa", sum := "11c63f5a9600d70b17a44bcd378d44f519e04aaf58abfd0781df911f1d118f1f", func := "loop.example/disclosurecontrol/laws.FnTableOfOrder", spec := "fnTableOfOrder", unfollowed := true, recurses := true, plainKeys := false, apart := false, narrowed := true }
def FnTableOfOrderUptoSaid : Prop := fnTableOfOrderUptoRow.holds Try.pinned (OpenSpec.upto fnTableOfOrderSpec)

/-- 'laws.FnDiffPeople', WHERE WHAT IT READS IS OF BULK AT MOST 1048576: true; the input reads as it did. -/
def fnDiffPeopleUptoRow : OpenClaim := { program := "ytkldaapcpnpdfaa", sum := "11c63f5a9600d70b17a44bcd378d44f519e04aaf58abfd0781df911f1d118f1f", func := "loop.example/disclosurecontrol/laws.FnDiffPeople", spec := "fnDiffPeople", unfollowed := true, recurses := true, plainKeys := false, apart := false, narrowed := true }
def FnDiffPeopleUptoSaid : Prop := fnDiffPeopleUptoRow.holds Try.pinned (OpenSpec.upto fnDiffPeopleSpec)

end Rows
end Go.Proofs.Ytkldaapcpnpdfaa
