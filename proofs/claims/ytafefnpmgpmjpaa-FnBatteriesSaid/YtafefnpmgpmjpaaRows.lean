/-
  No cell of these rows narrows 'for every input' (looked for: loops, veiled, ifaces, maps, wideKeys, modest, calm, conditions, laid).
  DERIVED. THE GIVEN ROWS OF THIS SEAT. 5 by the template 'for every input the law returns true; each argument reads behind the call as it read before'; 0 by the template 'total and deterministic' (their statements: YtafefnpmgpmjpaaTotals.lean).
  GIVEN WITH THE SEED: the statements are not yours to turn. If you find one false, say at which input.
  Laid BY PROGRAM, IN A SANDBOX (cutbox-rows.mjs): the forced cells as the released guide's own fill.sh prints them over the translation 912af005294d730f… (all of the seat's roots in one cut). By AI agents, Wed Nov 11 2026. No macro, syntax, notation, axiom, sorry.
-/
import Derived.Test.YtafefnpmgpmjpaaChecked
import GoSem.Claim
import GoSem.ClaimJoined
import GoSem.ClaimMapViews
import Derived.JoinedTies
import Derived.KernelRfl
namespace Go.Proofs.Ytafefnpmgpmjpaa
/- THE CELL 'sum', in the pinned program and in every row, IS THE sha256 OF THE DUMP (.gsa) THAT YtafefnpmgpmjpaaProg.lean LOADS. Nothing in Lean hashes anything: it is a label: what it is worth is what the hold of that sum in a sandbox is worth. -/
noncomputable def Try.pinned : Pinned := { name := "ytafefnpmgpmjpaa", sum := "912af005294d730f8a0488c283fa8a9ee1e44a8fc02db57c61a61ffe89c74973", checked := Try.checked }
namespace Rows
def none {H : Type} : Left H := { results := [], args := [] }

/-- 'laws.FnExactLongestRank': WHATEVER THE INPUT: true; the input reads as it did. -/
def fnExactLongestRankSpec : ChangeSpec := { name := "fnExactLongestRank", fn := fun _ => fun
  | [d1, d2, d3] => { results := [.lit (.bool true)], args := [d1, d2, d3] }
  | _ => none }
def fnExactLongestRankRow : OpenClaim := { program := "ytafefnpmgpmjpaa", sum := "912af005294d730f8a0488c283fa8a9ee1e44a8fc02db57c61a61ffe89c74973", func := "loop.example/g00935/laws.FnExactLongestRank", spec := "fnExactLongestRank", unfollowed := true, recurses := true, apart := false }
def FnExactLongestRankSaid : Prop := fnExactLongestRankRow.holds Try.pinned (OpenSpec.ofChange fnExactLongestRankSpec)

/-- ITS FALSE NEIGHBOUR: 'it returns false'. Refute it at one input. -/
def fnExactLongestRankWrong : ChangeSpec := { name := "fnExactLongestRank", fn := fun _ => fun
  | [d1, d2, d3] => { results := [.lit (.bool false)], args := [d1, d2, d3] }
  | _ => none }
def FnExactLongestRankWrongFalsely : Prop := fnExactLongestRankRow.holds Try.pinned (OpenSpec.ofChange fnExactLongestRankWrong)

/-- 'laws.FnBatteries': WHATEVER THE INPUT: true; the input reads as it did. -/
def fnBatteriesSpec : ChangeSpec := { name := "fnBatteries", fn := fun _ => fun
  | [d] => { results := [.lit (.bool true)], args := [d] }
  | _ => none }
def fnBatteriesRow : OpenClaim := { program := "ytafefnpmgpmjpaa", sum := "912af005294d730f8a0488c283fa8a9ee1e44a8fc02db57c61a61ffe89c74973", func := "loop.example/g00935/laws.FnBatteries", spec := "fnBatteries", unfollowed := true, recurses := true, apart := false }
def FnBatteriesSaid : Prop := fnBatteriesRow.holds Try.pinned (OpenSpec.ofChange fnBatteriesSpec)

/-- ITS FALSE NEIGHBOUR: 'it returns false'. Refute it at one input. -/
def fnBatteriesWrong : ChangeSpec := { name := "fnBatteries", fn := fun _ => fun
  | [d] => { results := [.lit (.bool false)], args := [d] }
  | _ => none }
def FnBatteriesWrongFalsely : Prop := fnBatteriesRow.holds Try.pinned (OpenSpec.ofChange fnBatteriesWrong)

/-- 'laws.FnExactServedWith': WHATEVER THE INPUT: true; the input reads as it did. -/
def fnExactServedWithSpec : ChangeSpec := { name := "fnExactServedWith", fn := fun _ => fun
  | [d1, d2] => { results := [.lit (.bool true)], args := [d1, d2] }
  | _ => none }
def fnExactServedWithRow : OpenClaim := { program := "ytafefnpmgpmjpaa", sum := "912af005294d730f8a0488c283fa8a9ee1e44a8fc02db57c61a61ffe89c74973", func := "loop.example/g00935/laws.FnExactServedWith", spec := "fnExactServedWith", unfollowed := true, recurses := true, apart := false }
def FnExactServedWithSaid : Prop := fnExactServedWithRow.holds Try.pinned (OpenSpec.ofChange fnExactServedWithSpec)

/-- ITS FALSE NEIGHBOUR: 'it returns false'. Refute it at one input. -/
def fnExactServedWithWrong : ChangeSpec := { name := "fnExactServedWith", fn := fun _ => fun
  | [d1, d2] => { results := [.lit (.bool false)], args := [d1, d2] }
  | _ => none }
def FnExactServedWithWrongFalsely : Prop := fnExactServedWithRow.holds Try.pinned (OpenSpec.ofChange fnExactServedWithWrong)

/-- 'laws.FnExactSwitchOff': WHATEVER THE INPUT: true; the input reads as it did. -/
def fnExactSwitchOffSpec : ChangeSpec := { name := "fnExactSwitchOff", fn := fun _ => fun
  | [d1, d2] => { results := [.lit (.bool true)], args := [d1, d2] }
  | _ => none }
def fnExactSwitchOffRow : OpenClaim := { program := "ytafefnpmgpmjpaa", sum := "912af005294d730f8a0488c283fa8a9ee1e44a8fc02db57c61a61ffe89c74973", func := "loop.example/g00935/laws.FnExactSwitchOff", spec := "fnExactSwitchOff", unfollowed := true, recurses := true, apart := false }
def FnExactSwitchOffSaid : Prop := fnExactSwitchOffRow.holds Try.pinned (OpenSpec.ofChange fnExactSwitchOffSpec)

/-- ITS FALSE NEIGHBOUR: 'it returns false'. Refute it at one input. -/
def fnExactSwitchOffWrong : ChangeSpec := { name := "fnExactSwitchOff", fn := fun _ => fun
  | [d1, d2] => { results := [.lit (.bool false)], args := [d1, d2] }
  | _ => none }
def FnExactSwitchOffWrongFalsely : Prop := fnExactSwitchOffRow.holds Try.pinned (OpenSpec.ofChange fnExactSwitchOffWrong)

/-- 'laws.FnPower': WHATEVER THE INPUT: true; the input reads as it did. -/
def fnPowerSpec : ChangeSpec := { name := "fnPower", fn := fun _ => fun
  | [d] => { results := [.lit (.bool true)], args := [d] }
  | _ => none }
def fnPowerRow : OpenClaim := { program := "ytafefnpmgpmjpaa", sum := "912af005294d730f8a0488c283fa8a9ee1e44a8fc02db57c61a61ffe89c74973", func := "loop.example/g00935/laws.FnPower", spec := "fnPower", unfollowed := true, recurses := true, apart := false }
def FnPowerSaid : Prop := fnPowerRow.holds Try.pinned (OpenSpec.ofChange fnPowerSpec)

/-- ITS FALSE NEIGHBOUR: 'it returns false'. Refute it at one input. -/
def fnPowerWrong : ChangeSpec := { name := "fnPower", fn := fun _ => fun
  | [d] => { results := [.lit (.bool false)], args := [d] }
  | _ => none }
def FnPowerWrongFalsely : Prop := fnPowerRow.holds Try.pinned (OpenSpec.ofChange fnPowerWrong)

/- THE SECOND FORM. 'bulk': how many values and letters a reading holds, each counted each time it is reached (what is shared counts as often as it is met; a slice's spare places count too). A statement '..UptoSaid' is the law's where the arguments, and the package variables that the reading takes, are together of bulk at most 1048576: NARROWER than '..Said'. Prove '..Said' where nothing that the law and all that it calls make is longer than what came in: it says more and counts as full. Else prove '..UptoSaid'. A law counts once. -/
mutual
def uptoBulk {H : Type} : DataW H → Nat
  | .lit (.string bytes) => bytes.length + 1
  | .lit _ => 1
  | .nil => 1
  | .ptr d => uptoBulk d + 1
  | .slice elems spare => uptoBulkAll elems + uptoBulkAll spare + 1
  | .agg parts => uptoBulkAll parts + 1
  | .iface _ d => uptoBulk d + 1
  | .map entries => uptoBulkEntries entries + 1
  | .held _ => 1
def uptoBulkAll {H : Type} : List (DataW H) → Nat
  | [] => 0
  | d :: r => uptoBulk d + uptoBulkAll r
def uptoBulkEntries {H : Type} : List (Lit × DataW H) → Nat
  | [] => 0
  | x :: r => uptoBulkEntry x + uptoBulkEntries r
def uptoBulkEntry {H : Type} : Lit × DataW H → Nat
  | (.string bytes, d) => bytes.length + uptoBulk d + 1
  | (_, d) => uptoBulk d + 1
 end
def uptoSmall : (H : Type) → List (DataW H) → Bool := fun _ ds => decide (uptoBulkAll ds ≤ 1048576)
def OpenSpec.upto (s : _root_.Go.ChangeSpec) : _root_.Go.OpenSpec := { _root_.Go.OpenSpec.ofChange s with cond := some uptoSmall }

/-- 'laws.FnExactLongestRank', WHERE WHAT IT READS IS OF BULK AT MOST 1048576: true; the input reads as it did. -/
def fnExactLongestRankUptoRow : OpenClaim := { program := "ytafefnpmgpmjpaa", sum := "912af005294d730f8a0488c283fa8a9ee1e44a8fc02db57c61a61ffe89c74973", func := "loop.example/g00935/laws.FnExactLongestRank", spec := "fnExactLongestRank", unfollowed := true, recurses := true, apart := false, narrowed := true }
def FnExactLongestRankUptoSaid : Prop := fnExactLongestRankUptoRow.holds Try.pinned (OpenSpec.upto fnExactLongestRankSpec)

/-- 'laws.FnBatteries', WHERE WHAT IT READS IS OF BULK AT MOST 1048576: true; the input reads as it did. -/
def fnBatteriesUptoRow : OpenClaim := { program := "ytafefnpmgpmjpaa", sum := "912af005294d730f8a0488c283fa8a9ee1e44a8fc02db57c61a61ffe89c74973", func := "loop.example/g00935/laws.FnBatteries", spec := "fnBatteries", unfollowed := true, recurses := true, apart := false, narrowed := true }
def FnBatteriesUptoSaid : Prop := fnBatteriesUptoRow.holds Try.pinned (OpenSpec.upto fnBatteriesSpec)

/-- 'laws.FnExactServedWith', WHERE WHAT IT READS IS OF BULK AT MOST 1048576: true; the input reads as it did. -/
def fnExactServedWithUptoRow : OpenClaim := { program := "ytafefnpmgpmjpaa", sum := "912af005294d730f8a0488c283fa8a9ee1e44a8fc02db57c61a61ffe89c74973", func := "loop.example/g00935/laws.FnExactServedWith", spec := "fnExactServedWith", unfollowed := true, recurses := true, apart := false, narrowed := true }
def FnExactServedWithUptoSaid : Prop := fnExactServedWithUptoRow.holds Try.pinned (OpenSpec.upto fnExactServedWithSpec)

/-- 'laws.FnExactSwitchOff', WHERE WHAT IT READS IS OF BULK AT MOST 1048576: true; the input reads as it did. -/
def fnExactSwitchOffUptoRow : OpenClaim := { program := "ytafefnpmgpmjpaa", sum := "912af005294d730f8a0488c283fa8a9ee1e44a8fc02db57c61a61ffe89c74973", func := "loop.example/g00935/laws.FnExactSwitchOff", spec := "fnExactSwitchOff", unfollowed := true, recurses := true, apart := false, narrowed := true }
def FnExactSwitchOffUptoSaid : Prop := fnExactSwitchOffUptoRow.holds Try.pinned (OpenSpec.upto fnExactSwitchOffSpec)

/-- 'laws.FnPower', WHERE WHAT IT READS IS OF BULK AT MOST 1048576: true; the input reads as it did. -/
def fnPowerUptoRow : OpenClaim := { program := "ytafefnpmgpmjpaa", sum := "912af005294d730f8a0488c283fa8a9ee1e44a8fc02db57c61a61ffe89c74973", func := "loop.example/g00935/laws.FnPower", spec := "fnPower", unfollowed := true, recurses := true, apart := false, narrowed := true }
def FnPowerUptoSaid : Prop := fnPowerUptoRow.holds Try.pinned (OpenSpec.upto fnPowerSpec)

end Rows
end Go.Proofs.Ytafefnpmgpmjpaa
