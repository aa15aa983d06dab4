/-
  No cell of these rows narrows 'for every input' (looked for: loops, veiled, ifaces, maps, wideKeys, modest, calm, conditions, laid).
  DERIVED. THE GIVEN ROWS OF THIS SEAT. 9 by the template 'for every input the law returns true; each argument reads behind the call as it read before'; 0 by the template 'total and deterministic' (their statements: YtknondhdhjegbaaTotals.lean).
  GIVEN WITH THE SEED: the statements are not yours to turn. If you find one false, say at which input.
  Laid BY PROGRAM, IN A SANDBOX (cutbox-rows.mjs): the forced cells as the released guide's own fill.sh prints them over the translation 3198d33f8a64ce4f… (all of the seat's roots in one cut). By AI agents, Wed Nov 11 2026. No macro, syntax, notation, axiom, sorry.
-/
import Derived.Test.YtknondhdhjegbaaChecked
import GoSem.Claim
import GoSem.ClaimJoined
import GoSem.ClaimMapViews
import Derived.JoinedTies
import Derived.KernelRfl
namespace Go.Proofs.Ytknondhdhjegbaa
/- THE CELL 'sum', in the pinned program and in every row, IS THE sha256 OF THE DUMP (.gsa) THAT YtknondhdhjegbaaProg.lean LOADS. Nothing in Lean hashes anything: it is a label: what it is worth is what the hold of that sum in a sandbox is worth. -/
noncomputable def Try.pinned : Pinned := { name := "ytknondhdhjegbaa", sum := "3198d33f8a64ce4fdb27a3e160b64ff90b74f451abcd7005d1010c611a559ed2", checked := Try.checked }
namespace Rows
def none {H : Type} : Left H := { results := [], args := [] }

/-- 'laws.FnExactIsCondition': WHATEVER THE INPUT: true; the input reads as it did. -/
def fnExactIsConditionSpec : ChangeSpec := { name := "fnExactIsCondition", fn := fun _ => fun
  | [d] => { results := [.lit (.bool true)], args := [d] }
  | _ => none }
def fnExactIsConditionRow : OpenClaim := { program := "ytknondhdhjegbaa", sum := "3198d33f8a64ce4fdb27a3e160b64ff90b74f451abcd7005d1010c611a559ed2", func := "loop.example/g00935/laws.FnExactIsCondition", spec := "fnExactIsCondition", apart := false }
def FnExactIsConditionSaid : Prop := fnExactIsConditionRow.holds Try.pinned (OpenSpec.ofChange fnExactIsConditionSpec)

/-- ITS FALSE NEIGHBOUR: 'it returns false'. Refute it at one input. -/
def fnExactIsConditionWrong : ChangeSpec := { name := "fnExactIsCondition", fn := fun _ => fun
  | [d] => { results := [.lit (.bool false)], args := [d] }
  | _ => none }
def FnExactIsConditionWrongFalsely : Prop := fnExactIsConditionRow.holds Try.pinned (OpenSpec.ofChange fnExactIsConditionWrong)

/-- 'laws.FnExactAreConditions': WHATEVER THE INPUT: true; the input reads as it did. -/
def fnExactAreConditionsSpec : ChangeSpec := { name := "fnExactAreConditions", fn := fun _ => fun
  | [d] => { results := [.lit (.bool true)], args := [d] }
  | _ => none }
def fnExactAreConditionsRow : OpenClaim := { program := "ytknondhdhjegbaa", sum := "3198d33f8a64ce4fdb27a3e160b64ff90b74f451abcd7005d1010c611a559ed2", func := "loop.example/g00935/laws.FnExactAreConditions", spec := "fnExactAreConditions", apart := false }
def FnExactAreConditionsSaid : Prop := fnExactAreConditionsRow.holds Try.pinned (OpenSpec.ofChange fnExactAreConditionsSpec)

/-- ITS FALSE NEIGHBOUR: 'it returns false'. Refute it at one input. -/
def fnExactAreConditionsWrong : ChangeSpec := { name := "fnExactAreConditions", fn := fun _ => fun
  | [d] => { results := [.lit (.bool false)], args := [d] }
  | _ => none }
def FnExactAreConditionsWrongFalsely : Prop := fnExactAreConditionsRow.holds Try.pinned (OpenSpec.ofChange fnExactAreConditionsWrong)

/-- 'laws.FnExactHoldsUntil': WHATEVER THE INPUT: true; the input reads as it did. -/
def fnExactHoldsUntilSpec : ChangeSpec := { name := "fnExactHoldsUntil", fn := fun _ => fun
  | [d1, d2] => { results := [.lit (.bool true)], args := [d1, d2] }
  | _ => none }
def fnExactHoldsUntilRow : OpenClaim := { program := "ytknondhdhjegbaa", sum := "3198d33f8a64ce4fdb27a3e160b64ff90b74f451abcd7005d1010c611a559ed2", func := "loop.example/g00935/laws.FnExactHoldsUntil", spec := "fnExactHoldsUntil", apart := false }
def FnExactHoldsUntilSaid : Prop := fnExactHoldsUntilRow.holds Try.pinned (OpenSpec.ofChange fnExactHoldsUntilSpec)

/-- ITS FALSE NEIGHBOUR: 'it returns false'. Refute it at one input. -/
def fnExactHoldsUntilWrong : ChangeSpec := { name := "fnExactHoldsUntil", fn := fun _ => fun
  | [d1, d2] => { results := [.lit (.bool false)], args := [d1, d2] }
  | _ => none }
def FnExactHoldsUntilWrongFalsely : Prop := fnExactHoldsUntilRow.holds Try.pinned (OpenSpec.ofChange fnExactHoldsUntilWrong)

/-- 'laws.FnExactWorstGrade': WHATEVER THE INPUT: true; the input reads as it did. -/
def fnExactWorstGradeSpec : ChangeSpec := { name := "fnExactWorstGrade", fn := fun _ => fun
  | [d] => { results := [.lit (.bool true)], args := [d] }
  | _ => none }
def fnExactWorstGradeRow : OpenClaim := { program := "ytknondhdhjegbaa", sum := "3198d33f8a64ce4fdb27a3e160b64ff90b74f451abcd7005d1010c611a559ed2", func := "loop.example/g00935/laws.FnExactWorstGrade", spec := "fnExactWorstGrade", apart := false }
def FnExactWorstGradeSaid : Prop := fnExactWorstGradeRow.holds Try.pinned (OpenSpec.ofChange fnExactWorstGradeSpec)

/-- ITS FALSE NEIGHBOUR: 'it returns false'. Refute it at one input. -/
def fnExactWorstGradeWrong : ChangeSpec := { name := "fnExactWorstGrade", fn := fun _ => fun
  | [d] => { results := [.lit (.bool false)], args := [d] }
  | _ => none }
def FnExactWorstGradeWrongFalsely : Prop := fnExactWorstGradeRow.holds Try.pinned (OpenSpec.ofChange fnExactWorstGradeWrong)

/-- 'laws.FnExactInspectAgain': WHATEVER THE INPUT: true; the input reads as it did. -/
def fnExactInspectAgainSpec : ChangeSpec := { name := "fnExactInspectAgain", fn := fun _ => fun
  | [d1, d2, d3, d4] => { results := [.lit (.bool true)], args := [d1, d2, d3, d4] }
  | _ => none }
def fnExactInspectAgainRow : OpenClaim := { program := "ytknondhdhjegbaa", sum := "3198d33f8a64ce4fdb27a3e160b64ff90b74f451abcd7005d1010c611a559ed2", func := "loop.example/g00935/laws.FnExactInspectAgain", spec := "fnExactInspectAgain", unfollowed := true, recurses := true, apart := false }
def FnExactInspectAgainSaid : Prop := fnExactInspectAgainRow.holds Try.pinned (OpenSpec.ofChange fnExactInspectAgainSpec)

/-- ITS FALSE NEIGHBOUR: 'it returns false'. Refute it at one input. -/
def fnExactInspectAgainWrong : ChangeSpec := { name := "fnExactInspectAgain", fn := fun _ => fun
  | [d1, d2, d3, d4] => { results := [.lit (.bool false)], args := [d1, d2, d3, d4] }
  | _ => none }
def FnExactInspectAgainWrongFalsely : Prop := fnExactInspectAgainRow.holds Try.pinned (OpenSpec.ofChange fnExactInspectAgainWrong)

/-- 'laws.FnExactUnmetOn': WHATEVER THE INPUT: true; the input reads as it did. -/
def fnExactUnmetOnSpec : ChangeSpec := { name := "fnExactUnmetOn", fn := fun _ => fun
  | [d1, d2] => { results := [.lit (.bool true)], args := [d1, d2] }
  | _ => none }
def fnExactUnmetOnRow : OpenClaim := { program := "ytknondhdhjegbaa", sum := "3198d33f8a64ce4fdb27a3e160b64ff90b74f451abcd7005d1010c611a559ed2", func := "loop.example/g00935/laws.FnExactUnmetOn", spec := "fnExactUnmetOn", apart := false }
def FnExactUnmetOnSaid : Prop := fnExactUnmetOnRow.holds Try.pinned (OpenSpec.ofChange fnExactUnmetOnSpec)

/-- ITS FALSE NEIGHBOUR: 'it returns false'. Refute it at one input. -/
def fnExactUnmetOnWrong : ChangeSpec := { name := "fnExactUnmetOn", fn := fun _ => fun
  | [d1, d2] => { results := [.lit (.bool false)], args := [d1, d2] }
  | _ => none }
def FnExactUnmetOnWrongFalsely : Prop := fnExactUnmetOnRow.holds Try.pinned (OpenSpec.ofChange fnExactUnmetOnWrong)

/-- 'laws.FnConditions': WHATEVER THE INPUT: true; the input reads as it did. -/
def fnConditionsSpec : ChangeSpec := { name := "fnConditions", fn := fun _ => fun
  | [d] => { results := [.lit (.bool true)], args := [d] }
  | _ => none }
def fnConditionsRow : OpenClaim := { program := "ytknondhdhjegbaa", sum := "3198d33f8a64ce4fdb27a3e160b64ff90b74f451abcd7005d1010c611a559ed2", func := "loop.example/g00935/laws.FnConditions", spec := "fnConditions", unfollowed := true, recurses := true, apart := false }
def FnConditionsSaid : Prop := fnConditionsRow.holds Try.pinned (OpenSpec.ofChange fnConditionsSpec)

/-- ITS FALSE NEIGHBOUR: 'it returns false'. Refute it at one input. -/
def fnConditionsWrong : ChangeSpec := { name := "fnConditions", fn := fun _ => fun
  | [d] => { results := [.lit (.bool false)], args := [d] }
  | _ => none }
def FnConditionsWrongFalsely : Prop := fnConditionsRow.holds Try.pinned (OpenSpec.ofChange fnConditionsWrong)

/-- 'laws.FnExactAddCondition': WHATEVER THE INPUT: true; the input reads as it did. -/
def fnExactAddConditionSpec : ChangeSpec := { name := "fnExactAddCondition", fn := fun _ => fun
  | [d1, d2] => { results := [.lit (.bool true)], args := [d1, d2] }
  | _ => none }
def fnExactAddConditionRow : OpenClaim := { program := "ytknondhdhjegbaa", sum := "3198d33f8a64ce4fdb27a3e160b64ff90b74f451abcd7005d1010c611a559ed2", func := "loop.example/g00935/laws.FnExactAddCondition", spec := "fnExactAddCondition", inPlace := ["slices.overlaps[loop.example/g00935/impl.Condition]"], unfollowed := true, recurses := true, apart := false }
def FnExactAddConditionSaid : Prop := fnExactAddConditionRow.holds Try.pinned (OpenSpec.ofChange fnExactAddConditionSpec)

/-- ITS FALSE NEIGHBOUR: 'it returns false'. Refute it at one input. -/
def fnExactAddConditionWrong : ChangeSpec := { name := "fnExactAddCondition", fn := fun _ => fun
  | [d1, d2] => { results := [.lit (.bool false)], args := [d1, d2] }
  | _ => none }
def FnExactAddConditionWrongFalsely : Prop := fnExactAddConditionRow.holds Try.pinned (OpenSpec.ofChange fnExactAddConditionWrong)

/-- 'laws.FnExactInspectionPlan': WHATEVER THE INPUT: true; the input reads as it did. -/
def fnExactInspectionPlanSpec : ChangeSpec := { name := "fnExactInspectionPlan", fn := fun _ => fun
  | [d1, d2, d3] => { results := [.lit (.bool true)], args := [d1, d2, d3] }
  | _ => none }
def fnExactInspectionPlanRow : OpenClaim := { program := "ytknondhdhjegbaa", sum := "3198d33f8a64ce4fdb27a3e160b64ff90b74f451abcd7005d1010c611a559ed2", func := "loop.example/g00935/laws.FnExactInspectionPlan", spec := "fnExactInspectionPlan", unfollowed := true, recurses := true, apart := false }
def FnExactInspectionPlanSaid : Prop := fnExactInspectionPlanRow.holds Try.pinned (OpenSpec.ofChange fnExactInspectionPlanSpec)

/-- ITS FALSE NEIGHBOUR: 'it returns false'. Refute it at one input. -/
def fnExactInspectionPlanWrong : ChangeSpec := { name := "fnExactInspectionPlan", fn := fun _ => fun
  | [d1, d2, d3] => { results := [.lit (.bool false)], args := [d1, d2, d3] }
  | _ => none }
def FnExactInspectionPlanWrongFalsely : Prop := fnExactInspectionPlanRow.holds Try.pinned (OpenSpec.ofChange fnExactInspectionPlanWrong)

/- THE SECOND FORM. 'bulk': how many values and letters a reading holds, each counted each time it is reached (what is shared counts as often as it is met; a slice's spare places count too). A statement '..UptoSaid' is the law's where the arguments, and the package variables that the reading takes, are together of bulk at most 1048576: NARROWER than '..Said'. Prove '..Said' where nothing that the law and all that it calls make is longer than what came in: it says more and counts as full. Else prove '..UptoSaid'. A law counts once. -/
mutual
def uptoBulk {H : Type} : DataW H → Nat
  | .lit (.string bytes) => bytes.length + 1
  | .lit _ => 1
  | .nil => 1
  | .ptr d => uptoBulk d + 1
  | .slice elems spare => uptoBulkAll elems + uptoBulkAll spare + 1
  | .agg parts => uptoBulkAll parts + 1
  | .iface _ d => uptoBulk d + 1
  | .map entries => uptoBulkEntries entries + 1
  | .held _ => 1
def uptoBulkAll {H : Type} : List (DataW H) → Nat
  | [] => 0
  | d :: r => uptoBulk d + uptoBulkAll r
def uptoBulkEntries {H : Type} : List (Lit × DataW H) → Nat
  | [] => 0
  | x :: r => uptoBulkEntry x + uptoBulkEntries r
def uptoBulkEntry {H : Type} : Lit × DataW H → Nat
  | (.string bytes, d) => bytes.length + uptoBulk d + 1
  | (_, d) => uptoBulk d + 1
 end
def uptoSmall : (H : Type) → List (DataW H) → Bool := fun _ ds => decide (uptoBulkAll ds ≤ 1048576)
def OpenSpec.upto (s : _root_.Go.ChangeSpec) : _root_.Go.OpenSpec := { _root_.Go.OpenSpec.ofChange s with cond := some uptoSmall }

/-- 'laws.FnExactIsCondition', WHERE WHAT IT READS IS OF BULK AT MOST 1048576: true; the input reads as it did. -/
def fnExactIsConditionUptoRow : OpenClaim := { program := "ytknondhdhjegbaa", sum := "3198d33f8a64ce4fdb27a3e160b64ff90b74f451abcd7005d1010c611a559ed2", func := "loop.example/g00935/laws.FnExactIsCondition", spec := "fnExactIsCondition", apart := false, narrowed := true }
def FnExactIsConditionUptoSaid : Prop := fnExactIsConditionUptoRow.holds Try.pinned (OpenSpec.upto fnExactIsConditionSpec)

/-- 'laws.FnExactAreConditions', WHERE WHAT IT READS IS OF BULK AT MOST 1048576: true; the input reads as it did. -/
def fnExactAreConditionsUptoRow : OpenClaim := { program := "ytknondhdhjegbaa", sum := "3198d33f8a64ce4fdb27a3e160b64ff90b74f451abcd7005d1010c611a559ed2", func := "loop.example/g00935/laws.FnExactAreConditions", spec := "fnExactAreConditions", apart := false, narrowed := true }
def FnExactAreConditionsUptoSaid : Prop := fnExactAreConditionsUptoRow.holds Try.pinned (OpenSpec.upto fnExactAreConditionsSpec)

/-- 'laws.FnExactHoldsUntil', WHERE WHAT IT READS IS OF BULK AT MOST 1048576: true; the input reads as it did. -/
def fnExactHoldsUntilUptoRow : OpenClaim := { program := "ytknondhdhjegbaa", sum := "3198d33f8a64ce4fdb27a3e160b64ff90b74f451abcd7005d1010c611a559ed2", func := "loop.example/g00935/laws.FnExactHoldsUntil", spec := "fnExactHoldsUntil", apart := false, narrowed := true }
def FnExactHoldsUntilUptoSaid : Prop := fnExactHoldsUntilUptoRow.holds Try.pinned (OpenSpec.upto fnExactHoldsUntilSpec)

/-- 'laws.FnExactWorstGrade', WHERE WHAT IT READS IS OF BULK AT MOST 1048576: true; the input reads as it did. -/
def fnExactWorstGradeUptoRow : OpenClaim := { program := "ytknondhdhjegbaa", sum := "3198d33f8a64ce4fdb27a3e160b64ff90b74f451abcd7005d1010c611a559ed2", func := "loop.example/g00935/laws.FnExactWorstGrade", spec := "fnExactWorstGrade", apart := false, narrowed := true }
def FnExactWorstGradeUptoSaid : Prop := fnExactWorstGradeUptoRow.holds Try.pinned (OpenSpec.upto fnExactWorstGradeSpec)

/-- 'laws.FnExactInspectAgain', WHERE WHAT IT READS IS OF BULK AT MOST 1048576: true; the input reads as it did. -/
def fnExactInspectAgainUptoRow : OpenClaim := { program := "ytknondhdhjegbaa", sum := "3198d33f8a64ce4fdb27a3e160b64ff90b74f451abcd7005d1010c611a559ed2", func := "loop.example/g00935/laws.FnExactInspectAgain", spec := "fnExactInspectAgain", unfollowed := true, recurses := true, apart := false, narrowed := true }
def FnExactInspectAgainUptoSaid : Prop := fnExactInspectAgainUptoRow.holds Try.pinned (OpenSpec.upto fnExactInspectAgainSpec)

/-- 'laws.FnExactUnmetOn', WHERE WHAT IT READS IS OF BULK AT MOST 1048576: true; the input reads as it did. -/
def fnExactUnmetOnUptoRow : OpenClaim := { program := "ytknondhdhjegbaa", sum := "3198d33f8a64ce4fdb27a3e160b64ff90b74f451abcd7005d1010c611a559ed2", func := "loop.example/g00935/laws.FnExactUnmetOn", spec := "fnExactUnmetOn", apart := false, narrowed := true }
def FnExactUnmetOnUptoSaid : Prop := fnExactUnmetOnUptoRow.holds Try.pinned (OpenSpec.upto fnExactUnmetOnSpec)

/-- 'laws.FnConditions', WHERE WHAT IT READS IS OF BULK AT MOST 1048576: true; the input reads as it did. -/
def fnConditionsUptoRow : OpenClaim := { program := "ytknondhdhjegbaa", sum := "3198d33f8a64ce4fdb27a3e160b64ff90b74f451abcd7005d1010c611a559ed2", func := "loop.example/g00935/laws.FnConditions", spec := "fnConditions", unfollowed := true, recurses := true, apart := false, narrowed := true }
def FnConditionsUptoSaid : Prop := fnConditionsUptoRow.holds Try.pinned (OpenSpec.upto fnConditionsSpec)

/-- 'laws.FnExactAddCondition', WHERE WHAT IT READS IS OF BULK AT MOST 1048576: true; the input reads as it did. -/
def fnExactAddConditionUptoRow : OpenClaim := { program := "ytknondhdhjegbaa", sum := "3198d33f8a64ce4fdb27a3e160b64ff90b74f451abcd7005d1010c611a559ed2", func := "loop.example/g00935/laws.FnExactAddCondition", spec := "fnExactAddCondition", inPlace := ["slices.overlaps[loop.example/g00935/impl.Condition]"], unfollowed := true, recurses := true, apart := false, narrowed := true }
def FnExactAddConditionUptoSaid : Prop := fnExactAddConditionUptoRow.holds Try.pinned (OpenSpec.upto fnExactAddConditionSpec)

/-- 'laws.FnExactInspectionPlan', WHERE WHAT IT READS IS OF BULK AT MOST 1048576: true; the input reads as it did. -/
def fnExactInspectionPlanUptoRow : OpenClaim := { program := "ytknondhdhjegbaa", sum := "3198d33f8a64ce4fdb27a3e160b64ff90b74f451abcd7005d1010c611a559ed2", func := "loop.example/g00935/laws.FnExactInspectionPlan", spec := "fnExactInspectionPlan", unfollowed := true, recurses := true, apart := false, narrowed := true }
def FnExactInspectionPlanUptoSaid : Prop := fnExactInspectionPlanUptoRow.holds Try.pinned (OpenSpec.upto fnExactInspectionPlanSpec)

end Rows
end Go.Proofs.Ytknondhdhjegbaa
