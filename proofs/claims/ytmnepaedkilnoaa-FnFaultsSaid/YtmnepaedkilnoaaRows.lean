/-
  No cell of these rows narrows 'for every input' (looked for: loops, veiled, ifaces, maps, wideKeys, modest, calm, conditions, laid).
  DERIVED. THE GIVEN ROWS OF THIS SEAT. 11 by the template 'for every input the law returns true; each argument reads behind the call as it read before'; 0 by the template 'total and deterministic' (their statements: YtmnepaedkilnoaaTotals.lean).
  GIVEN WITH THE SEED: the statements are not yours to turn. If you find one false, say at which input.
  Laid BY PROGRAM, IN A SANDBOX (cutbox-rows.mjs): the forced cells as the released guide's own fill.sh prints them over the translation 3c0b08f46ae0b05a… (all of the seat's roots in one cut). By AI agents, Wed Nov 11 2026. No macro, syntax, notation, axiom, sorry.
-/
import Derived.Test.YtmnepaedkilnoaaChecked
import GoSem.Claim
import GoSem.ClaimJoined
import GoSem.ClaimMapViews
import Derived.JoinedTies
import Derived.KernelRfl
namespace Go.Proofs.Ytmnepaedkilnoaa
/- THE CELL 'sum', in the pinned program and in every row, IS THE sha256 OF THE DUMP (.gsa) THAT YtmnepaedkilnoaaProg.lean LOADS. Nothing in Lean hashes anything: it is a label: what it is worth is what the hold of that sum in a sandbox is worth. -/
noncomputable def Try.pinned : Pinned := { name := "ytmnepaedkilnoaa", sum := "3c0b08f46ae0b05a1f003b6200f2fa06b436b7f6d55d97b2361b94e2440d755f", checked := Try.checked }
namespace Rows
def none {H : Type} : Left H := { results := [], args := [] }

/-- 'laws.FnExactIsRecordOf': WHATEVER THE INPUT: true; the input reads as it did. -/
def fnExactIsRecordOfSpec : ChangeSpec := { name := "fnExactIsRecordOf", fn := fun _ => fun
  | [d] => { results := [.lit (.bool true)], args := [d] }
  | _ => none }
def fnExactIsRecordOfRow : OpenClaim := { program := "ytmnepaedkilnoaa", sum := "3c0b08f46ae0b05a1f003b6200f2fa06b436b7f6d55d97b2361b94e2440d755f", func := "loop.example/g00935/laws.FnExactIsRecordOf", spec := "fnExactIsRecordOf", apart := false }
def FnExactIsRecordOfSaid : Prop := fnExactIsRecordOfRow.holds Try.pinned (OpenSpec.ofChange fnExactIsRecordOfSpec)

/-- ITS FALSE NEIGHBOUR: 'it returns false'. Refute it at one input. -/
def fnExactIsRecordOfWrong : ChangeSpec := { name := "fnExactIsRecordOf", fn := fun _ => fun
  | [d] => { results := [.lit (.bool false)], args := [d] }
  | _ => none }
def FnExactIsRecordOfWrongFalsely : Prop := fnExactIsRecordOfRow.holds Try.pinned (OpenSpec.ofChange fnExactIsRecordOfWrong)

/-- 'laws.FnExactArePatterns': WHATEVER THE INPUT: true; the input reads as it did. -/
def fnExactArePatternsSpec : ChangeSpec := { name := "fnExactArePatterns", fn := fun _ => fun
  | [d] => { results := [.lit (.bool true)], args := [d] }
  | _ => none }
def fnExactArePatternsRow : OpenClaim := { program := "ytmnepaedkilnoaa", sum := "3c0b08f46ae0b05a1f003b6200f2fa06b436b7f6d55d97b2361b94e2440d755f", func := "loop.example/g00935/laws.FnExactArePatterns", spec := "fnExactArePatterns", apart := false }
def FnExactArePatternsSaid : Prop := fnExactArePatternsRow.holds Try.pinned (OpenSpec.ofChange fnExactArePatternsSpec)

/-- ITS FALSE NEIGHBOUR: 'it returns false'. Refute it at one input. -/
def fnExactArePatternsWrong : ChangeSpec := { name := "fnExactArePatterns", fn := fun _ => fun
  | [d] => { results := [.lit (.bool false)], args := [d] }
  | _ => none }
def FnExactArePatternsWrongFalsely : Prop := fnExactArePatternsRow.holds Try.pinned (OpenSpec.ofChange fnExactArePatternsWrong)

/-- 'laws.FnExactEventsWithin': WHATEVER THE INPUT: true; the input reads as it did. -/
def fnExactEventsWithinSpec : ChangeSpec := { name := "fnExactEventsWithin", fn := fun _ => fun
  | [d1, d2, d3] => { results := [.lit (.bool true)], args := [d1, d2, d3] }
  | _ => none }
def fnExactEventsWithinRow : OpenClaim := { program := "ytmnepaedkilnoaa", sum := "3c0b08f46ae0b05a1f003b6200f2fa06b436b7f6d55d97b2361b94e2440d755f", func := "loop.example/g00935/laws.FnExactEventsWithin", spec := "fnExactEventsWithin", unfollowed := true, recurses := true, apart := false }
def FnExactEventsWithinSaid : Prop := fnExactEventsWithinRow.holds Try.pinned (OpenSpec.ofChange fnExactEventsWithinSpec)

/-- ITS FALSE NEIGHBOUR: 'it returns false'. Refute it at one input. -/
def fnExactEventsWithinWrong : ChangeSpec := { name := "fnExactEventsWithin", fn := fun _ => fun
  | [d1, d2, d3] => { results := [.lit (.bool false)], args := [d1, d2, d3] }
  | _ => none }
def FnExactEventsWithinWrongFalsely : Prop := fnExactEventsWithinRow.holds Try.pinned (OpenSpec.ofChange fnExactEventsWithinWrong)

/-- 'laws.FnExactCountMatches': WHATEVER THE INPUT: true; the input reads as it did. -/
def fnExactCountMatchesSpec : ChangeSpec := { name := "fnExactCountMatches", fn := fun _ => fun
  | [d1, d2, d3] => { results := [.lit (.bool true)], args := [d1, d2, d3] }
  | _ => none }
def fnExactCountMatchesRow : OpenClaim := { program := "ytmnepaedkilnoaa", sum := "3c0b08f46ae0b05a1f003b6200f2fa06b436b7f6d55d97b2361b94e2440d755f", func := "loop.example/g00935/laws.FnExactCountMatches", spec := "fnExactCountMatches", unfollowed := true, recurses := true, apart := false }
def FnExactCountMatchesSaid : Prop := fnExactCountMatchesRow.holds Try.pinned (OpenSpec.ofChange fnExactCountMatchesSpec)

/-- ITS FALSE NEIGHBOUR: 'it returns false'. Refute it at one input. -/
def fnExactCountMatchesWrong : ChangeSpec := { name := "fnExactCountMatches", fn := fun _ => fun
  | [d1, d2, d3] => { results := [.lit (.bool false)], args := [d1, d2, d3] }
  | _ => none }
def FnExactCountMatchesWrongFalsely : Prop := fnExactCountMatchesRow.holds Try.pinned (OpenSpec.ofChange fnExactCountMatchesWrong)

/-- 'laws.FnExactLikeliestFault': WHATEVER THE INPUT: true; the input reads as it did. -/
def fnExactLikeliestFaultSpec : ChangeSpec := { name := "fnExactLikeliestFault", fn := fun _ => fun
  | [d1, d2] => { results := [.lit (.bool true)], args := [d1, d2] }
  | _ => none }
def fnExactLikeliestFaultRow : OpenClaim := { program := "ytmnepaedkilnoaa", sum := "3c0b08f46ae0b05a1f003b6200f2fa06b436b7f6d55d97b2361b94e2440d755f", func := "loop.example/g00935/laws.FnExactLikeliestFault", spec := "fnExactLikeliestFault", apart := false }
def FnExactLikeliestFaultSaid : Prop := fnExactLikeliestFaultRow.holds Try.pinned (OpenSpec.ofChange fnExactLikeliestFaultSpec)

/-- ITS FALSE NEIGHBOUR: 'it returns false'. Refute it at one input. -/
def fnExactLikeliestFaultWrong : ChangeSpec := { name := "fnExactLikeliestFault", fn := fun _ => fun
  | [d1, d2] => { results := [.lit (.bool false)], args := [d1, d2] }
  | _ => none }
def FnExactLikeliestFaultWrongFalsely : Prop := fnExactLikeliestFaultRow.holds Try.pinned (OpenSpec.ofChange fnExactLikeliestFaultWrong)

/-- 'laws.FnExactDetectedAt': WHATEVER THE INPUT: true; the input reads as it did. -/
def fnExactDetectedAtSpec : ChangeSpec := { name := "fnExactDetectedAt", fn := fun _ => fun
  | [d1, d2, d3] => { results := [.lit (.bool true)], args := [d1, d2, d3] }
  | _ => none }
def fnExactDetectedAtRow : OpenClaim := { program := "ytmnepaedkilnoaa", sum := "3c0b08f46ae0b05a1f003b6200f2fa06b436b7f6d55d97b2361b94e2440d755f", func := "loop.example/g00935/laws.FnExactDetectedAt", spec := "fnExactDetectedAt", unfollowed := true, recurses := true, apart := false }
def FnExactDetectedAtSaid : Prop := fnExactDetectedAtRow.holds Try.pinned (OpenSpec.ofChange fnExactDetectedAtSpec)

/-- ITS FALSE NEIGHBOUR: 'it returns false'. Refute it at one input. -/
def fnExactDetectedAtWrong : ChangeSpec := { name := "fnExactDetectedAt", fn := fun _ => fun
  | [d1, d2, d3] => { results := [.lit (.bool false)], args := [d1, d2, d3] }
  | _ => none }
def FnExactDetectedAtWrongFalsely : Prop := fnExactDetectedAtRow.holds Try.pinned (OpenSpec.ofChange fnExactDetectedAtWrong)

/-- 'laws.FnExactFaultsIn': WHATEVER THE INPUT: true; the input reads as it did. -/
def fnExactFaultsInSpec : ChangeSpec := { name := "fnExactFaultsIn", fn := fun _ => fun
  | [d1, d2] => { results := [.lit (.bool true)], args := [d1, d2] }
  | _ => none }
def fnExactFaultsInRow : OpenClaim := { program := "ytmnepaedkilnoaa", sum := "3c0b08f46ae0b05a1f003b6200f2fa06b436b7f6d55d97b2361b94e2440d755f", func := "loop.example/g00935/laws.FnExactFaultsIn", spec := "fnExactFaultsIn", apart := false }
def FnExactFaultsInSaid : Prop := fnExactFaultsInRow.holds Try.pinned (OpenSpec.ofChange fnExactFaultsInSpec)

/-- ITS FALSE NEIGHBOUR: 'it returns false'. Refute it at one input. -/
def fnExactFaultsInWrong : ChangeSpec := { name := "fnExactFaultsIn", fn := fun _ => fun
  | [d1, d2] => { results := [.lit (.bool false)], args := [d1, d2] }
  | _ => none }
def FnExactFaultsInWrongFalsely : Prop := fnExactFaultsInRow.holds Try.pinned (OpenSpec.ofChange fnExactFaultsInWrong)

/-- 'laws.FnExactUnexplainedEvents': WHATEVER THE INPUT: true; the input reads as it did. -/
def fnExactUnexplainedEventsSpec : ChangeSpec := { name := "fnExactUnexplainedEvents", fn := fun _ => fun
  | [d1, d2] => { results := [.lit (.bool true)], args := [d1, d2] }
  | _ => none }
def fnExactUnexplainedEventsRow : OpenClaim := { program := "ytmnepaedkilnoaa", sum := "3c0b08f46ae0b05a1f003b6200f2fa06b436b7f6d55d97b2361b94e2440d755f", func := "loop.example/g00935/laws.FnExactUnexplainedEvents", spec := "fnExactUnexplainedEvents", apart := false }
def FnExactUnexplainedEventsSaid : Prop := fnExactUnexplainedEventsRow.holds Try.pinned (OpenSpec.ofChange fnExactUnexplainedEventsSpec)

/-- ITS FALSE NEIGHBOUR: 'it returns false'. Refute it at one input. -/
def fnExactUnexplainedEventsWrong : ChangeSpec := { name := "fnExactUnexplainedEvents", fn := fun _ => fun
  | [d1, d2] => { results := [.lit (.bool false)], args := [d1, d2] }
  | _ => none }
def FnExactUnexplainedEventsWrongFalsely : Prop := fnExactUnexplainedEventsRow.holds Try.pinned (OpenSpec.ofChange fnExactUnexplainedEventsWrong)

/-- 'laws.FnExactFirstMatch': WHATEVER THE INPUT: true; the input reads as it did. -/
def fnExactFirstMatchSpec : ChangeSpec := { name := "fnExactFirstMatch", fn := fun _ => fun
  | [d1, d2, d3] => { results := [.lit (.bool true)], args := [d1, d2, d3] }
  | _ => none }
def fnExactFirstMatchRow : OpenClaim := { program := "ytmnepaedkilnoaa", sum := "3c0b08f46ae0b05a1f003b6200f2fa06b436b7f6d55d97b2361b94e2440d755f", func := "loop.example/g00935/laws.FnExactFirstMatch", spec := "fnExactFirstMatch", unfollowed := true, recurses := true, apart := false }
def FnExactFirstMatchSaid : Prop := fnExactFirstMatchRow.holds Try.pinned (OpenSpec.ofChange fnExactFirstMatchSpec)

/-- ITS FALSE NEIGHBOUR: 'it returns false'. Refute it at one input. -/
def fnExactFirstMatchWrong : ChangeSpec := { name := "fnExactFirstMatch", fn := fun _ => fun
  | [d1, d2, d3] => { results := [.lit (.bool false)], args := [d1, d2, d3] }
  | _ => none }
def FnExactFirstMatchWrongFalsely : Prop := fnExactFirstMatchRow.holds Try.pinned (OpenSpec.ofChange fnExactFirstMatchWrong)

/-- 'laws.FnFaults': WHATEVER THE INPUT: true; the input reads as it did. -/
def fnFaultsSpec : ChangeSpec := { name := "fnFaults", fn := fun _ => fun
  | [d] => { results := [.lit (.bool true)], args := [d] }
  | _ => none }
def fnFaultsRow : OpenClaim := { program := "ytmnepaedkilnoaa", sum := "3c0b08f46ae0b05a1f003b6200f2fa06b436b7f6d55d97b2361b94e2440d755f", func := "loop.example/g00935/laws.FnFaults", spec := "fnFaults", unfollowed := true, recurses := true, apart := false }
def FnFaultsSaid : Prop := fnFaultsRow.holds Try.pinned (OpenSpec.ofChange fnFaultsSpec)

/-- ITS FALSE NEIGHBOUR: 'it returns false'. Refute it at one input. -/
def fnFaultsWrong : ChangeSpec := { name := "fnFaults", fn := fun _ => fun
  | [d] => { results := [.lit (.bool false)], args := [d] }
  | _ => none }
def FnFaultsWrongFalsely : Prop := fnFaultsRow.holds Try.pinned (OpenSpec.ofChange fnFaultsWrong)

/-- 'laws.FnDiagnoses': WHATEVER THE INPUT: true; the input reads as it did. -/
def fnDiagnosesSpec : ChangeSpec := { name := "fnDiagnoses", fn := fun _ => fun
  | [d] => { results := [.lit (.bool true)], args := [d] }
  | _ => none }
def fnDiagnosesRow : OpenClaim := { program := "ytmnepaedkilnoaa", sum := "3c0b08f46ae0b05a1f003b6200f2fa06b436b7f6d55d97b2361b94e2440d755f", func := "loop.example/g00935/laws.FnDiagnoses", spec := "fnDiagnoses", unfollowed := true, recurses := true, apart := false }
def FnDiagnosesSaid : Prop := fnDiagnosesRow.holds Try.pinned (OpenSpec.ofChange fnDiagnosesSpec)

/-- ITS FALSE NEIGHBOUR: 'it returns false'. Refute it at one input. -/
def fnDiagnosesWrong : ChangeSpec := { name := "fnDiagnoses", fn := fun _ => fun
  | [d] => { results := [.lit (.bool false)], args := [d] }
  | _ => none }
def FnDiagnosesWrongFalsely : Prop := fnDiagnosesRow.holds Try.pinned (OpenSpec.ofChange fnDiagnosesWrong)

/- THE SECOND FORM. 'bulk': how many values and letters a reading holds, each counted each time it is reached (what is shared counts as often as it is met; a slice's spare places count too). A statement '..UptoSaid' is the law's where the arguments, and the package variables that the reading takes, are together of bulk at most 1048576: NARROWER than '..Said'. Prove '..Said' where nothing that the law and all that it calls make is longer than what came in: it says more and counts as full. Else prove '..UptoSaid'. A law counts once. -/
mutual
def uptoBulk {H : Type} : DataW H → Nat
  | .lit (.string bytes) => bytes.length + 1
  | .lit _ => 1
  | .nil => 1
  | .ptr d => uptoBulk d + 1
  | .slice elems spare => uptoBulkAll elems + uptoBulkAll spare + 1
  | .agg parts => uptoBulkAll parts + 1
  | .iface _ d => uptoBulk d + 1
  | .map entries => uptoBulkEntries entries + 1
  | .held _ => 1
def uptoBulkAll {H : Type} : List (DataW H) → Nat
  | [] => 0
  | d :: r => uptoBulk d + uptoBulkAll r
def uptoBulkEntries {H : Type} : List (Lit × DataW H) → Nat
  | [] => 0
  | x :: r => uptoBulkEntry x + uptoBulkEntries r
def uptoBulkEntry {H : Type} : Lit × DataW H → Nat
  | (.string bytes, d) => bytes.length + uptoBulk d + 1
  | (_, d) => uptoBulk d + 1
 end
def uptoSmall : (H : Type) → List (DataW H) → Bool := fun _ ds => decide (uptoBulkAll ds ≤ 1048576)
def OpenSpec.upto (s : _root_.Go.ChangeSpec) : _root_.Go.OpenSpec := { _root_.Go.OpenSpec.ofChange s with cond := some uptoSmall }

/-- 'laws.FnExactIsRecordOf', WHERE WHAT IT READS IS OF BULK AT MOST 1048576: true; the input reads as it did. -/
def fnExactIsRecordOfUptoRow : OpenClaim := { program := "ytmnepaedkilnoaa", sum := "3c0b08f46ae0b05a1f003b6200f2fa06b436b7f6d55d97b2361b94e2440d755f", func := "loop.example/g00935/laws.FnExactIsRecordOf", spec := "fnExactIsRecordOf", apart := false, narrowed := true }
def FnExactIsRecordOfUptoSaid : Prop := fnExactIsRecordOfUptoRow.holds Try.pinned (OpenSpec.upto fnExactIsRecordOfSpec)

/-- 'laws.FnExactArePatterns', WHERE WHAT IT READS IS OF BULK AT MOST 1048576: true; the input reads as it did. -/
def fnExactArePatternsUptoRow : OpenClaim := { program := "ytmnepaedkilnoaa", sum := "3c0b08f46ae0b05a1f003b6200f2fa06b436b7f6d55d97b2361b94e2440d755f", func := "loop.example/g00935/laws.FnExactArePatterns", spec := "fnExactArePatterns", apart := false, narrowed := true }
def FnExactArePatternsUptoSaid : Prop := fnExactArePatternsUptoRow.holds Try.pinned (OpenSpec.upto fnExactArePatternsSpec)

/-- 'laws.FnExactEventsWithin', WHERE WHAT IT READS IS OF BULK AT MOST 1048576: true; the input reads as it did. -/
def fnExactEventsWithinUptoRow : OpenClaim := { program := "ytmnepaedkilnoaa", sum := "3c0b08f46ae0b05a1f003b6200f2fa06b436b7f6d55d97b2361b94e2440d755f", func := "loop.example/g00935/laws.FnExactEventsWithin", spec := "fnExactEventsWithin", unfollowed := true, recurses := true, apart := false, narrowed := true }
def FnExactEventsWithinUptoSaid : Prop := fnExactEventsWithinUptoRow.holds Try.pinned (OpenSpec.upto fnExactEventsWithinSpec)

/-- 'laws.FnExactCountMatches', WHERE WHAT IT READS IS OF BULK AT MOST 1048576: true; the input reads as it did. -/
def fnExactCountMatchesUptoRow : OpenClaim := { program := "ytmnepaedkilnoaa", sum := "3c0b08f46ae0b05a1f003b6200f2fa06b436b7f6d55d97b2361b94e2440d755f", func := "loop.example/g00935/laws.FnExactCountMatches", spec := "fnExactCountMatches", unfollowed := true, recurses := true, apart := false, narrowed := true }
def FnExactCountMatchesUptoSaid : Prop := fnExactCountMatchesUptoRow.holds Try.pinned (OpenSpec.upto fnExactCountMatchesSpec)

/-- 'laws.FnExactLikeliestFault', WHERE WHAT IT READS IS OF BULK AT MOST 1048576: true; the input reads as it did. -/
def fnExactLikeliestFaultUptoRow : OpenClaim := { program := "ytmnepaedkilnoaa", sum := "3c0b08f46ae0b05a1f003b6200f2fa06b436b7f6d55d97b2361b94e2440d755f", func := "loop.example/g00935/laws.FnExactLikeliestFault", spec := "fnExactLikeliestFault", apart := false, narrowed := true }
def FnExactLikeliestFaultUptoSaid : Prop := fnExactLikeliestFaultUptoRow.holds Try.pinned (OpenSpec.upto fnExactLikeliestFaultSpec)

/-- 'laws.FnExactDetectedAt', WHERE WHAT IT READS IS OF BULK AT MOST 1048576: true; the input reads as it did. -/
def fnExactDetectedAtUptoRow : OpenClaim := { program := "ytmnepaedkilnoaa", sum := "3c0b08f46ae0b05a1f003b6200f2fa06b436b7f6d55d97b2361b94e2440d755f", func := "loop.example/g00935/laws.FnExactDetectedAt", spec := "fnExactDetectedAt", unfollowed := true, recurses := true, apart := false, narrowed := true }
def FnExactDetectedAtUptoSaid : Prop := fnExactDetectedAtUptoRow.holds Try.pinned (OpenSpec.upto fnExactDetectedAtSpec)

/-- 'laws.FnExactFaultsIn', WHERE WHAT IT READS IS OF BULK AT MOST 1048576: true; the input reads as it did. -/
def fnExactFaultsInUptoRow : OpenClaim := { program := "ytmnepaedkilnoaa", sum := "3c0b08f46ae0b05a1f003b6200f2fa06b436b7f6d55d97b2361b94e2440d755f", func := "loop.example/g00935/laws.FnExactFaultsIn", spec := "fnExactFaultsIn", apart := false, narrowed := true }
def FnExactFaultsInUptoSaid : Prop := fnExactFaultsInUptoRow.holds Try.pinned (OpenSpec.upto fnExactFaultsInSpec)

/-- 'laws.FnExactUnexplainedEvents', WHERE WHAT IT READS IS OF BULK AT MOST 1048576: true; the input reads as it did. -/
def fnExactUnexplainedEventsUptoRow : OpenClaim := { program := "ytmnepaedkilnoaa", sum := "3c0b08f46ae0b05a1f003b6200f2fa06b436b7f6d55d97b2361b94e2440d755f", func := "loop.example/g00935/laws.FnExactUnexplainedEvents", spec := "fnExactUnexplainedEvents", apart := false, narrowed := true }
def FnExactUnexplainedEventsUptoSaid : Prop := fnExactUnexplainedEventsUptoRow.holds Try.pinned (OpenSpec.upto fnExactUnexplainedEventsSpec)

/-- 'laws.FnExactFirstMatch', WHERE WHAT IT READS IS OF BULK AT MOST 1048576: true; the input reads as it did. -/
def fnExactFirstMatchUptoRow : OpenClaim := { program := "ytmnepaedkilnoaa", sum := "3c0b08f46ae0b05a1f003b6200f2fa06b436b7f6d55d97b2361b94e2440d755f", func := "loop.example/g00935/laws.FnExactFirstMatch", spec := "fnExactFirstMatch", unfollowed := true, recurses := true, apart := false, narrowed := true }
def FnExactFirstMatchUptoSaid : Prop := fnExactFirstMatchUptoRow.holds Try.pinned (OpenSpec.upto fnExactFirstMatchSpec)

/-- 'laws.FnFaults', WHERE WHAT IT READS IS OF BULK AT MOST 1048576: true; the input reads as it did. -/
def fnFaultsUptoRow : OpenClaim := { program := "ytmnepaedkilnoaa", sum := "3c0b08f46ae0b05a1f003b6200f2fa06b436b7f6d55d97b2361b94e2440d755f", func := "loop.example/g00935/laws.FnFaults", spec := "fnFaults", unfollowed := true, recurses := true, apart := false, narrowed := true }
def FnFaultsUptoSaid : Prop := fnFaultsUptoRow.holds Try.pinned (OpenSpec.upto fnFaultsSpec)

/-- 'laws.FnDiagnoses', WHERE WHAT IT READS IS OF BULK AT MOST 1048576: true; the input reads as it did. -/
def fnDiagnosesUptoRow : OpenClaim := { program := "ytmnepaedkilnoaa", sum := "3c0b08f46ae0b05a1f003b6200f2fa06b436b7f6d55d97b2361b94e2440d755f", func := "loop.example/g00935/laws.FnDiagnoses", spec := "fnDiagnoses", unfollowed := true, recurses := true, apart := false, narrowed := true }
def FnDiagnosesUptoSaid : Prop := fnDiagnosesUptoRow.holds Try.pinned (OpenSpec.upto fnDiagnosesSpec)

end Rows
end Go.Proofs.Ytmnepaedkilnoaa
