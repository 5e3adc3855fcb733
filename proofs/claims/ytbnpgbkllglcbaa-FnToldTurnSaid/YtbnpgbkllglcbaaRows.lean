/-
  No cell of these rows narrows 'for every input' (looked for: loops, veiled, ifaces, maps, wideKeys, modest, calm, conditions, laid).
  DERIVED. THE GIVEN ROWS OF THIS SEAT. 11 by the template 'for every input the law returns true; each argument reads behind the call as it read before'; 0 by the template 'total and deterministic' (their statements: YtbnpgbkllglcbaaTotals.lean).
  GIVEN WITH THE SEED: the statements are not yours to turn. If you find one false, say at which input.
  Laid BY PROGRAM, IN A SANDBOX (cutbox-rows.mjs): the forced cells as the released guide's own fill.sh prints them over the translation c984195fd9547fb4… (all of the seat's roots in one cut). By AI agents, Wed Nov 11 2026. No macro, syntax, notation, axiom, sorry.
-/
import Derived.Test.YtbnpgbkllglcbaaChecked
import GoSem.Claim
import GoSem.ClaimJoined
import GoSem.ClaimMapViews
import Derived.JoinedTies
import Derived.KernelRfl
namespace Go.Proofs.Ytbnpgbkllglcbaa
/- THE CELL 'sum', in the pinned program and in every row, IS THE sha256 OF THE DUMP (.gsa) THAT YtbnpgbkllglcbaaProg.lean LOADS. Nothing in Lean hashes anything: it is a label: what it is worth is what the hold of that sum in a sandbox is worth. -/
noncomputable def Try.pinned : Pinned := { name := "ytbnpgbkllglcbaa", sum := "c984195fd9547fb405657f950a9d9f0c88b9e809bddadbaf8961db2171ee47be", checked := Try.checked }
namespace Rows
def none {H : Type} : Left H := { results := [], args := [] }

/-- 'laws.FnSafe': WHATEVER THE INPUT: true; the input reads as it did. -/
def fnSafeSpec : ChangeSpec := { name := "fnSafe", fn := fun _ => fun
  | [d1, d2] => { results := [.lit (.bool true)], args := [d1, d2] }
  | _ => none }
def fnSafeRow : OpenClaim := { program := "ytbnpgbkllglcbaa", sum := "c984195fd9547fb405657f950a9d9f0c88b9e809bddadbaf8961db2171ee47be", func := "loop.example/disclosurecontrol/laws.FnSafe", spec := "fnSafe", unfollowed := true, recurses := true, apart := false }
def FnSafeSaid : Prop := fnSafeRow.holds Try.pinned (OpenSpec.ofChange fnSafeSpec)

/-- ITS FALSE NEIGHBOUR: 'it returns false'. Refute it at one input. -/
def fnSafeWrong : ChangeSpec := { name := "fnSafe", fn := fun _ => fun
  | [d1, d2] => { results := [.lit (.bool false)], args := [d1, d2] }
  | _ => none }
def FnSafeWrongFalsely : Prop := fnSafeRow.holds Try.pinned (OpenSpec.ofChange fnSafeWrong)

/-- 'laws.FnSafeNone': WHATEVER THE INPUT: true; the input reads as it did. -/
def fnSafeNoneSpec : ChangeSpec := { name := "fnSafeNone", fn := fun _ => fun
  | [d] => { results := [.lit (.bool true)], args := [d] }
  | _ => none }
def fnSafeNoneRow : OpenClaim := { program := "ytbnpgbkllglcbaa", sum := "c984195fd9547fb405657f950a9d9f0c88b9e809bddadbaf8961db2171ee47be", func := "loop.example/disclosurecontrol/laws.FnSafeNone", spec := "fnSafeNone", unfollowed := true, recurses := true, apart := false }
def FnSafeNoneSaid : Prop := fnSafeNoneRow.holds Try.pinned (OpenSpec.ofChange fnSafeNoneSpec)

/-- ITS FALSE NEIGHBOUR: 'it returns false'. Refute it at one input. -/
def fnSafeNoneWrong : ChangeSpec := { name := "fnSafeNone", fn := fun _ => fun
  | [d] => { results := [.lit (.bool false)], args := [d] }
  | _ => none }
def FnSafeNoneWrongFalsely : Prop := fnSafeNoneRow.holds Try.pinned (OpenSpec.ofChange fnSafeNoneWrong)

/-- 'laws.FnSafeMore': WHATEVER THE INPUT: true; the input reads as it did. -/
def fnSafeMoreSpec : ChangeSpec := { name := "fnSafeMore", fn := fun _ => fun
  | [d1, d2] => { results := [.lit (.bool true)], args := [d1, d2] }
  | _ => none }
def fnSafeMoreRow : OpenClaim := { program := "ytbnpgbkllglcbaa", sum := "c984195fd9547fb405657f950a9d9f0c88b9e809bddadbaf8961db2171ee47be", func := "loop.example/disclosurecontrol/laws.FnSafeMore", spec := "fnSafeMore", unfollowed := true, recurses := true, apart := false }
def FnSafeMoreSaid : Prop := fnSafeMoreRow.holds Try.pinned (OpenSpec.ofChange fnSafeMoreSpec)

/-- ITS FALSE NEIGHBOUR: 'it returns false'. Refute it at one input. -/
def fnSafeMoreWrong : ChangeSpec := { name := "fnSafeMore", fn := fun _ => fun
  | [d1, d2] => { results := [.lit (.bool false)], args := [d1, d2] }
  | _ => none }
def FnSafeMoreWrongFalsely : Prop := fnSafeMoreRow.holds Try.pinned (OpenSpec.ofChange fnSafeMoreWrong)

/-- 'laws.FnExactBoundTold': WHATEVER THE INPUT: true; the input reads as it did. -/
def fnExactBoundToldSpec : ChangeSpec := { name := "fnExactBoundTold", fn := fun _ => fun
  | [d1, d2, d3, d4] => { results := [.lit (.bool true)], args := [d1, d2, d3, d4] }
  | _ => none }
def fnExactBoundToldRow : OpenClaim := { program := "ytbnpgbkllglcbaa", sum := "c984195fd9547fb405657f950a9d9f0c88b9e809bddadbaf8961db2171ee47be", func := "loop.example/disclosurecontrol/laws.FnExactBoundTold", spec := "fnExactBoundTold", unfollowed := true, recurses := true, apart := false }
def FnExactBoundToldSaid : Prop := fnExactBoundToldRow.holds Try.pinned (OpenSpec.ofChange fnExactBoundToldSpec)

/-- ITS FALSE NEIGHBOUR: 'it returns false'. Refute it at one input. -/
def fnExactBoundToldWrong : ChangeSpec := { name := "fnExactBoundTold", fn := fun _ => fun
  | [d1, d2, d3, d4] => { results := [.lit (.bool false)], args := [d1, d2, d3, d4] }
  | _ => none }
def FnExactBoundToldWrongFalsely : Prop := fnExactBoundToldRow.holds Try.pinned (OpenSpec.ofChange fnExactBoundToldWrong)

/-- 'laws.FnSafeTurn': WHATEVER THE INPUT: true; the input reads as it did. -/
def fnSafeTurnSpec : ChangeSpec := { name := "fnSafeTurn", fn := fun _ => fun
  | [d] => { results := [.lit (.bool true)], args := [d] }
  | _ => none }
def fnSafeTurnRow : OpenClaim := { program := "ytbnpgbkllglcbaa", sum := "c984195fd9547fb405657f950a9d9f0c88b9e809bddadbaf8961db2171ee47be", func := "loop.example/disclosurecontrol/laws.FnSafeTurn", spec := "fnSafeTurn", unfollowed := true, recurses := true, apart := false }
def FnSafeTurnSaid : Prop := fnSafeTurnRow.holds Try.pinned (OpenSpec.ofChange fnSafeTurnSpec)

/-- ITS FALSE NEIGHBOUR: 'it returns false'. Refute it at one input. -/
def fnSafeTurnWrong : ChangeSpec := { name := "fnSafeTurn", fn := fun _ => fun
  | [d] => { results := [.lit (.bool false)], args := [d] }
  | _ => none }
def FnSafeTurnWrongFalsely : Prop := fnSafeTurnRow.holds Try.pinned (OpenSpec.ofChange fnSafeTurnWrong)

/-- 'laws.FnExactPatternSafe': WHATEVER THE INPUT: true; the input reads as it did. -/
def fnExactPatternSafeSpec : ChangeSpec := { name := "fnExactPatternSafe", fn := fun _ => fun
  | [d1, d2, d3, d4, d5] => { results := [.lit (.bool true)], args := [d1, d2, d3, d4, d5] }
  | _ => none }
def fnExactPatternSafeRow : OpenClaim := { program := "ytbnpgbkllglcbaa", sum := "c984195fd9547fb405657f950a9d9f0c88b9e809bddadbaf8961db2171ee47be", func := "loop.example/disclosurecontrol/laws.FnExactPatternSafe", spec := "fnExactPatternSafe", unfollowed := true, recurses := true, apart := false }
def FnExactPatternSafeSaid : Prop := fnExactPatternSafeRow.holds Try.pinned (OpenSpec.ofChange fnExactPatternSafeSpec)

/-- ITS FALSE NEIGHBOUR: 'it returns false'. Refute it at one input. -/
def fnExactPatternSafeWrong : ChangeSpec := { name := "fnExactPatternSafe", fn := fun _ => fun
  | [d1, d2, d3, d4, d5] => { results := [.lit (.bool false)], args := [d1, d2, d3, d4, d5] }
  | _ => none }
def FnExactPatternSafeWrongFalsely : Prop := fnExactPatternSafeRow.holds Try.pinned (OpenSpec.ofChange fnExactPatternSafeWrong)

/-- 'laws.FnBoundMany': WHATEVER THE INPUT: true; the input reads as it did. -/
def fnBoundManySpec : ChangeSpec := { name := "fnBoundMany", fn := fun _ => fun
  | [d] => { results := [.lit (.bool true)], args := [d] }
  | _ => none }
def fnBoundManyRow : OpenClaim := { program := "ytbnpgbkllglcbaa", sum := "c984195fd9547fb405657f950a9d9f0c88b9e809bddadbaf8961db2171ee47be", func := "loop.example/disclosurecontrol/laws.FnBoundMany", spec := "fnBoundMany", unfollowed := true, recurses := true, apart := false }
def FnBoundManySaid : Prop := fnBoundManyRow.holds Try.pinned (OpenSpec.ofChange fnBoundManySpec)

/-- ITS FALSE NEIGHBOUR: 'it returns false'. Refute it at one input. -/
def fnBoundManyWrong : ChangeSpec := { name := "fnBoundMany", fn := fun _ => fun
  | [d] => { results := [.lit (.bool false)], args := [d] }
  | _ => none }
def FnBoundManyWrongFalsely : Prop := fnBoundManyRow.holds Try.pinned (OpenSpec.ofChange fnBoundManyWrong)

/-- 'laws.FnToldTurn': WHATEVER THE INPUT: true; the input reads as it did. -/
def fnToldTurnSpec : ChangeSpec := { name := "fnToldTurn", fn := fun _ => fun
  | [d] => { results := [.lit (.bool true)], args := [d] }
  | _ => none }
def fnToldTurnRow : OpenClaim := { program := "ytbnpgbkllglcbaa", sum := "c984195fd9547fb405657f950a9d9f0c88b9e809bddadbaf8961db2171ee47be", func := "loop.example/disclosurecontrol/laws.FnToldTurn", spec := "fnToldTurn", unfollowed := true, recurses := true, apart := false }
def FnToldTurnSaid : Prop := fnToldTurnRow.holds Try.pinned (OpenSpec.ofChange fnToldTurnSpec)

/-- ITS FALSE NEIGHBOUR: 'it returns false'. Refute it at one input. -/
def fnToldTurnWrong : ChangeSpec := { name := "fnToldTurn", fn := fun _ => fun
  | [d] => { results := [.lit (.bool false)], args := [d] }
  | _ => none }
def FnToldTurnWrongFalsely : Prop := fnToldTurnRow.holds Try.pinned (OpenSpec.ofChange fnToldTurnWrong)

/-- 'laws.FnExactBoundMany': WHATEVER THE INPUT: true; the input reads as it did. -/
def fnExactBoundManySpec : ChangeSpec := { name := "fnExactBoundMany", fn := fun _ => fun
  | [d1, d2] => { results := [.lit (.bool true)], args := [d1, d2] }
  | _ => none }
def fnExactBoundManyRow : OpenClaim := { program := "ytbnpgbkllglcbaa", sum := "c984195fd9547fb405657f950a9d9f0c88b9e809bddadbaf8961db2171ee47be", func := "loop.example/disclosurecontrol/laws.FnExactBoundMany", spec := "fnExactBoundMany", unfollowed := true, recurses := true, apart := false }
def FnExactBoundManySaid : Prop := fnExactBoundManyRow.holds Try.pinned (OpenSpec.ofChange fnExactBoundManySpec)

/-- ITS FALSE NEIGHBOUR: 'it returns false'. Refute it at one input. -/
def fnExactBoundManyWrong : ChangeSpec := { name := "fnExactBoundMany", fn := fun _ => fun
  | [d1, d2] => { results := [.lit (.bool false)], args := [d1, d2] }
  | _ => none }
def FnExactBoundManyWrongFalsely : Prop := fnExactBoundManyRow.holds Try.pinned (OpenSpec.ofChange fnExactBoundManyWrong)

/-- 'laws.FnExactPatternNeed': WHATEVER THE INPUT: true; the input reads as it did. -/
def fnExactPatternNeedSpec : ChangeSpec := { name := "fnExactPatternNeed", fn := fun _ => fun
  | [d1, d2, d3, d4] => { results := [.lit (.bool true)], args := [d1, d2, d3, d4] }
  | _ => none }
def fnExactPatternNeedRow : OpenClaim := { program := "ytbnpgbkllglcbaa", sum := "c984195fd9547fb405657f950a9d9f0c88b9e809bddadbaf8961db2171ee47be", func := "loop.example/disclosurecontrol/laws.FnExactPatternNeed", spec := "fnExactPatternNeed", unfollowed := true, recurses := true, apart := false }
def FnExactPatternNeedSaid : Prop := fnExactPatternNeedRow.holds Try.pinned (OpenSpec.ofChange fnExactPatternNeedSpec)

/-- ITS FALSE NEIGHBOUR: 'it returns false'. Refute it at one input. -/
def fnExactPatternNeedWrong : ChangeSpec := { name := "fnExactPatternNeed", fn := fun _ => fun
  | [d1, d2, d3, d4] => { results := [.lit (.bool false)], args := [d1, d2, d3, d4] }
  | _ => none }
def FnExactPatternNeedWrongFalsely : Prop := fnExactPatternNeedRow.holds Try.pinned (OpenSpec.ofChange fnExactPatternNeedWrong)

/-- 'laws.FnExactPatternOk': WHATEVER THE INPUT: true; the input reads as it did. -/
def fnExactPatternOkSpec : ChangeSpec := { name := "fnExactPatternOk", fn := fun _ => fun
  | [d1, d2, d3, d4] => { results := [.lit (.bool true)], args := [d1, d2, d3, d4] }
  | _ => none }
def fnExactPatternOkRow : OpenClaim := { program := "ytbnpgbkllglcbaa", sum := "c984195fd9547fb405657f950a9d9f0c88b9e809bddadbaf8961db2171ee47be", func := "loop.example/disclosurecontrol/laws.FnExactPatternOk", spec := "fnExactPatternOk", unfollowed := true, recurses := true, apart := false }
def FnExactPatternOkSaid : Prop := fnExactPatternOkRow.holds Try.pinned (OpenSpec.ofChange fnExactPatternOkSpec)

/-- ITS FALSE NEIGHBOUR: 'it returns false'. Refute it at one input. -/
def fnExactPatternOkWrong : ChangeSpec := { name := "fnExactPatternOk", fn := fun _ => fun
  | [d1, d2, d3, d4] => { results := [.lit (.bool false)], args := [d1, d2, d3, d4] }
  | _ => none }
def FnExactPatternOkWrongFalsely : Prop := fnExactPatternOkRow.holds Try.pinned (OpenSpec.ofChange fnExactPatternOkWrong)

/- THE SECOND FORM. 'bulk': how many values and letters a reading holds, each counted each time it is reached (what is shared counts as often as it is met; a slice's spare places count too). A statement '..UptoSaid' is the law's where the arguments, and the package variables that the reading takes, are together of bulk at most 1048576: NARROWER than '..Said'. Prove '..Said' where nothing that the law and all that it calls make is longer than what came in: it says more and counts as full. Else prove '..UptoSaid'. A law counts once. -/
mutual
def uptoBulk {H : Type} : DataW H → Nat
  | .lit (.string bytes) => bytes.length + 1
  | .lit _ => 1
  | .nil => 1
  | .ptr d => uptoBulk d + 1
  | .slice elems spare => uptoBulkAll elems + uptoBulkAll spare + 1
  | .agg parts => uptoBulkAll parts + 1
  | .iface _ d => uptoBulk d + 1
  | .map entries => uptoBulkEntries entries + 1
  | .held _ => 1
def uptoBulkAll {H : Type} : List (DataW H) → Nat
  | [] => 0
  | d :: r => uptoBulk d + uptoBulkAll r
def uptoBulkEntries {H : Type} : List (Lit × DataW H) → Nat
  | [] => 0
  | x :: r => uptoBulkEntry x + uptoBulkEntries r
def uptoBulkEntry {H : Type} : Lit × DataW H → Nat
  | (.string bytes, d) => bytes.length + uptoBulk d + 1
  | (_, d) => uptoBulk d + 1
 end
def uptoSmall : (H : Type) → List (DataW H) → Bool := fun _ ds => decide (uptoBulkAll ds ≤ 1048576)
def OpenSpec.upto (s : _root_.Go.ChangeSpec) : _root_.Go.OpenSpec := { _root_.Go.OpenSpec.ofChange s with cond := some uptoSmall }

/-- 'laws.FnSafe', WHERE WHAT IT READS IS OF BULK AT MOST 1048576: true; the input reads as it did. -/
def fnSafeUptoRow : OpenClaim := { program := "ytbnpgbkllglcbaa", sum := "c984195fd9547fb405657f950a9d9f0c88b9e809bddadbaf8961db2171ee47be", func := "loop.example/disclosurecontrol/laws.FnSafe", spec := "fnSafe", unfollowed := true, recurses := true, apart := false, narrowed := true }
def FnSafeUptoSaid : Prop := fnSafeUptoRow.holds Try.pinned (OpenSpec.upto fnSafeSpec)

/-- 'laws.FnSafeNone', WHERE WHAT IT READS IS OF BULK AT MOST 1048576: true; the input reads as it did. -/
def fnSafeNoneUptoRow : OpenClaim := { program := "ytbnpgbkllglcbaa", sum := "c984195fd9547fb405657f950a9d9f0c88b9e809bddadbaf8961db2171ee47be", func := "loop.example/disclosurecontrol/laws.FnSafeNone", spec := "fnSafeNone", unfollowed := true, recurses := true, apart := false, narrowed := true }
def FnSafeNoneUptoSaid : Prop := fnSafeNoneUptoRow.holds Try.pinned (OpenSpec.upto fnSafeNoneSpec)

/-- 'laws.FnSafeMore', WHERE WHAT IT READS IS OF BULK AT MOST 1048576: true; the input reads as it did. -/
def fnSafeMoreUptoRow : OpenClaim := { program := "ytbnpgbkllglcbaa", sum := "c984195fd9547fb405657f950a9d9f0c88b9e809bddadbaf8961db2171ee47be", func := "loop.example/disclosurecontrol/laws.FnSafeMore", spec := "fnSafeMore", unfollowed := true, recurses := true, apart := false, narrowed := true }
def FnSafeMoreUptoSaid : Prop := fnSafeMoreUptoRow.holds Try.pinned (OpenSpec.upto fnSafeMoreSpec)

/-- 'laws.FnExactBoundTold', WHERE WHAT IT READS IS OF BULK AT MOST 1048576: true; the input reads as it did. -/
def fnExactBoundToldUptoRow : OpenClaim := { program := "ytbnpgbkllglcbaa", sum := "c984195fd9547fb405657f950a9d9f0c88b9e809bddadbaf8961db2171ee47be", func := "loop.example/disclosurecontrol/laws.FnExactBoundTold", spec := "fnExactBoundTold", unfollowed := true, recurses := true, apart := false, narrowed := true }
def FnExactBoundToldUptoSaid : Prop := fnExactBoundToldUptoRow.holds Try.pinned (OpenSpec.upto fnExactBoundToldSpec)

/-- 'laws.FnSafeTurn', WHERE WHAT IT READS IS OF BULK AT MOST 1048576: true; the input reads as it did. -/
def fnSafeTurnUptoRow : OpenClaim := { program := "ytbnpgbkllglcbaa", sum := "c984195fd9547fb405657f950a9d9f0c88b9e809bddadbaf8961db2171ee47be", func := "loop.example/disclosurecontrol/laws.FnSafeTurn", spec := "fnSafeTurn", unfollowed := true, recurses := true, apart := false, narrowed := true }
def FnSafeTurnUptoSaid : Prop := fnSafeTurnUptoRow.holds Try.pinned (OpenSpec.upto fnSafeTurnSpec)

/-- 'laws.FnExactPatternSafe', WHERE WHAT IT READS IS OF BULK AT MOST 1048576: true; the input reads as it did. -/
def fnExactPatternSafeUptoRow : OpenClaim := { program := "ytbnpgbkllglcbaa", sum := "c984195fd9547fb405657f950a9d9f0c88b9e809bddadbaf8961db2171ee47be", func := "loop.example/disclosurecontrol/laws.FnExactPatternSafe", spec := "fnExactPatternSafe", unfollowed := true, recurses := true, apart := false, narrowed := true }
def FnExactPatternSafeUptoSaid : Prop := fnExactPatternSafeUptoRow.holds Try.pinned (OpenSpec.upto fnExactPatternSafeSpec)

/-- 'laws.FnBoundMany', WHERE WHAT IT READS IS OF BULK AT MOST 1048576: true; the input reads as it did. -/
def fnBoundManyUptoRow : OpenClaim := { program := "ytbnpgbkllglcbaa", sum := "c984195fd9547fb405657f950a9d9f0c88b9e809bddadbaf8961db2171ee47be", func := "loop.example/disclosurecontrol/laws.FnBoundMany", spec := "fnBoundMany", unfollowed := true, recurses := true, apart := false, narrowed := true }
def FnBoundManyUptoSaid : Prop := fnBoundManyUptoRow.holds Try.pinned (OpenSpec.upto fnBoundManySpec)

/-- 'laws.FnToldTurn', WHERE WHAT IT READS IS OF BULK AT MOST 1048576: true; the input reads as it did. -/
def fnToldTurnUptoRow : OpenClaim := { program := "ytbnpgbkllglcbaa", sum := "c984195fd9547fb405657f950a9d9f0c88b9e809bddadbaf8961db2171ee47be", func := "loop.example/disclosurecontrol/laws.FnToldTurn", spec := "fnToldTurn", unfollowed := true, recurses := true, apart := false, narrowed := true }
def FnToldTurnUptoSaid : Prop := fnToldTurnUptoRow.holds Try.pinned (OpenSpec.upto fnToldTurnSpec)

/-- 'laws.FnExactBoundMany', WHERE WHAT IT READS IS OF BULK AT MOST 1048576: true; the input reads as it did. -/
def fnExactBoundManyUptoRow : OpenClaim := { program := "ytbnpgbkllglcbaa", sum := "c984195fd9547fb405657f950a9d9f0c88b9e809bddadbaf8961db2171ee47be", func := "loop.example/disclosurecontrol/laws.FnExactBoundMany", spec := "fnExactBoundMany", unfollowed := true, recurses := true, apart := false, narrowed := true }
def FnExactBoundManyUptoSaid : Prop := fnExactBoundManyUptoRow.holds Try.pinned (OpenSpec.upto fnExactBoundManySpec)

/-- 'laws.FnExactPatternNeed', WHERE WHAT IT READS IS OF BULK AT MOST 1048576: true; the input reads as it did. -/
def fnExactPatternNeedUptoRow : OpenClaim := { program := "ytbnpgbkllglcbaa", sum := "c984195fd9547fb405657f950a9d9f0c88b9e809bddadbaf8961db2171ee47be", func := "loop.example/disclosurecontrol/laws.FnExactPatternNeed", spec := "fnExactPatternNeed", unfollowed := true, recurses := true, apart := false, narrowed := true }
def FnExactPatternNeedUptoSaid : Prop := fnExactPatternNeedUptoRow.holds Try.pinned (OpenSpec.upto fnExactPatternNeedSpec)

/-- 'laws.FnExactPatternOk', WHERE WHAT IT READS IS OF BULK AT MOST 1048576: true; the input reads as it did. -/
def fnExactPatternOkUptoRow : OpenClaim := { program := "ytbnpgbkllglcbaa", sum := "c984195fd9547fb405657f950a9d9f0c88b9e809bddadbaf8961db2171ee47be", func := "loop.example/disclosurecontrol/laws.FnExactPatternOk", spec := "fnExactPatternOk", unfollowed := true, recurses := true, apart := false, narrowed := true }
def FnExactPatternOkUptoSaid : Prop := fnExactPatternOkUptoRow.holds Try.pinned (OpenSpec.upto fnExactPatternOkSpec)

end Rows
end Go.Proofs.Ytbnpgbkllglcbaa
