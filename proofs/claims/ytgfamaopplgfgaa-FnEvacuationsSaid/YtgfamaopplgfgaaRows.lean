/-
  No cell of these rows narrows 'for every input' (looked for: loops, veiled, ifaces, maps, wideKeys, modest, calm, conditions, laid).
  DERIVED. THE GIVEN ROWS OF THIS SEAT. 11 by the template 'for every input the law returns true; each argument reads behind the call as it read before'; 0 by the template 'total and deterministic' (their statements: YtgfamaopplgfgaaTotals.lean).
  GIVEN WITH THE SEED: the statements are not yours to turn. If you find one false, say at which input.
  Laid BY PROGRAM, IN A SANDBOX (cutbox-rows.mjs): the forced cells as the released guide's own fill.sh prints them over the translation db80434a7dfd1343… (all of the seat's roots in one cut). By AI agents, Wed Nov 11 2026. No macro, syntax, notation, axiom, sorry.
-/
import Derived.Test.YtgfamaopplgfgaaChecked
import GoSem.Claim
import GoSem.ClaimJoined
import GoSem.ClaimMapViews
import Derived.JoinedTies
import Derived.KernelRfl
namespace Go.Proofs.Ytgfamaopplgfgaa
/- THE CELL 'sum', in the pinned program and in every row, IS THE sha256 OF THE DUMP (.gsa) THAT YtgfamaopplgfgaaProg.lean LOADS. Nothing in Lean hashes anything: it is a label: what it is worth is what the hold of that sum in a sandbox is worth. -/
noncomputable def Try.pinned : Pinned := { name := "ytgfamaopplgfgaa", sum := "db80434a7dfd134367d650b5860c6dd2adc4653c82fca1e9123a24a7bbc3b3c2", checked := Try.checked }
namespace Rows
def none {H : Type} : Left H := { results := [], args := [] }

/-- 'laws.FnEvacuations': WHATEVER THE INPUT: true; the input reads as it did. -/
def fnEvacuationsSpec : ChangeSpec := { name := "fnEvacuations", fn := fun _ => fun
  | [d] => { results := [.lit (.bool true)], args := [d] }
  | _ => none }
def fnEvacuationsRow : OpenClaim := { program := "ytgfamaopplgfgaa", sum := "db80434a7dfd134367d650b5860c6dd2adc4653c82fca1e9123a24a7bbc3b3c2", func := "loop.example/g00935/laws.FnEvacuations", spec := "fnEvacuations", unfollowed := true, recurses := true, apart := false }
def FnEvacuationsSaid : Prop := fnEvacuationsRow.holds Try.pinned (OpenSpec.ofChange fnEvacuationsSpec)

/-- ITS FALSE NEIGHBOUR: 'it returns false'. Refute it at one input. -/
def fnEvacuationsWrong : ChangeSpec := { name := "fnEvacuations", fn := fun _ => fun
  | [d] => { results := [.lit (.bool false)], args := [d] }
  | _ => none }
def FnEvacuationsWrongFalsely : Prop := fnEvacuationsRow.holds Try.pinned (OpenSpec.ofChange fnEvacuationsWrong)

/-- 'laws.FnExactPeopleUp': WHATEVER THE INPUT: true; the input reads as it did. -/
def fnExactPeopleUpSpec : ChangeSpec := { name := "fnExactPeopleUp", fn := fun _ => fun
  | [d1, d2] => { results := [.lit (.bool true)], args := [d1, d2] }
  | _ => none }
def fnExactPeopleUpRow : OpenClaim := { program := "ytgfamaopplgfgaa", sum := "db80434a7dfd134367d650b5860c6dd2adc4653c82fca1e9123a24a7bbc3b3c2", func := "loop.example/g00935/laws.FnExactPeopleUp", spec := "fnExactPeopleUp", apart := false }
def FnExactPeopleUpSaid : Prop := fnExactPeopleUpRow.holds Try.pinned (OpenSpec.ofChange fnExactPeopleUpSpec)

/-- ITS FALSE NEIGHBOUR: 'it returns false'. Refute it at one input. -/
def fnExactPeopleUpWrong : ChangeSpec := { name := "fnExactPeopleUp", fn := fun _ => fun
  | [d1, d2] => { results := [.lit (.bool false)], args := [d1, d2] }
  | _ => none }
def FnExactPeopleUpWrongFalsely : Prop := fnExactPeopleUpRow.holds Try.pinned (OpenSpec.ofChange fnExactPeopleUpWrong)

/-- 'laws.FnExactAreCrews': WHATEVER THE INPUT: true; the input reads as it did. -/
def fnExactAreCrewsSpec : ChangeSpec := { name := "fnExactAreCrews", fn := fun _ => fun
  | [d1, d2] => { results := [.lit (.bool true)], args := [d1, d2] }
  | _ => none }
def fnExactAreCrewsRow : OpenClaim := { program := "ytgfamaopplgfgaa", sum := "db80434a7dfd134367d650b5860c6dd2adc4653c82fca1e9123a24a7bbc3b3c2", func := "loop.example/g00935/laws.FnExactAreCrews", spec := "fnExactAreCrews", unfollowed := true, recurses := true, apart := false }
def FnExactAreCrewsSaid : Prop := fnExactAreCrewsRow.holds Try.pinned (OpenSpec.ofChange fnExactAreCrewsSpec)

/-- ITS FALSE NEIGHBOUR: 'it returns false'. Refute it at one input. -/
def fnExactAreCrewsWrong : ChangeSpec := { name := "fnExactAreCrews", fn := fun _ => fun
  | [d1, d2] => { results := [.lit (.bool false)], args := [d1, d2] }
  | _ => none }
def FnExactAreCrewsWrongFalsely : Prop := fnExactAreCrewsRow.holds Try.pinned (OpenSpec.ofChange fnExactAreCrewsWrong)

/-- 'laws.FnExactFullestSpan': WHATEVER THE INPUT: true; the input reads as it did. -/
def fnExactFullestSpanSpec : ChangeSpec := { name := "fnExactFullestSpan", fn := fun _ => fun
  | [d1, d2] => { results := [.lit (.bool true)], args := [d1, d2] }
  | _ => none }
def fnExactFullestSpanRow : OpenClaim := { program := "ytgfamaopplgfgaa", sum := "db80434a7dfd134367d650b5860c6dd2adc4653c82fca1e9123a24a7bbc3b3c2", func := "loop.example/g00935/laws.FnExactFullestSpan", spec := "fnExactFullestSpan", apart := false }
def FnExactFullestSpanSaid : Prop := fnExactFullestSpanRow.holds Try.pinned (OpenSpec.ofChange fnExactFullestSpanSpec)

/-- ITS FALSE NEIGHBOUR: 'it returns false'. Refute it at one input. -/
def fnExactFullestSpanWrong : ChangeSpec := { name := "fnExactFullestSpan", fn := fun _ => fun
  | [d1, d2] => { results := [.lit (.bool false)], args := [d1, d2] }
  | _ => none }
def FnExactFullestSpanWrongFalsely : Prop := fnExactFullestSpanRow.holds Try.pinned (OpenSpec.ofChange fnExactFullestSpanWrong)

/-- 'laws.FnExactSpanTime': WHATEVER THE INPUT: true; the input reads as it did. -/
def fnExactSpanTimeSpec : ChangeSpec := { name := "fnExactSpanTime", fn := fun _ => fun
  | [d1, d2, d3, d4, d5, d6] => { results := [.lit (.bool true)], args := [d1, d2, d3, d4, d5, d6] }
  | _ => none }
def fnExactSpanTimeRow : OpenClaim := { program := "ytgfamaopplgfgaa", sum := "db80434a7dfd134367d650b5860c6dd2adc4653c82fca1e9123a24a7bbc3b3c2", func := "loop.example/g00935/laws.FnExactSpanTime", spec := "fnExactSpanTime", unfollowed := true, recurses := true, apart := false }
def FnExactSpanTimeSaid : Prop := fnExactSpanTimeRow.holds Try.pinned (OpenSpec.ofChange fnExactSpanTimeSpec)

/-- ITS FALSE NEIGHBOUR: 'it returns false'. Refute it at one input. -/
def fnExactSpanTimeWrong : ChangeSpec := { name := "fnExactSpanTime", fn := fun _ => fun
  | [d1, d2, d3, d4, d5, d6] => { results := [.lit (.bool false)], args := [d1, d2, d3, d4, d5, d6] }
  | _ => none }
def FnExactSpanTimeWrongFalsely : Prop := fnExactSpanTimeRow.holds Try.pinned (OpenSpec.ofChange fnExactSpanTimeWrong)

/-- 'laws.FnExactNearestCrew': WHATEVER THE INPUT: true; the input reads as it did. -/
def fnExactNearestCrewSpec : ChangeSpec := { name := "fnExactNearestCrew", fn := fun _ => fun
  | [d1, d2, d3, d4] => { results := [.lit (.bool true)], args := [d1, d2, d3, d4] }
  | _ => none }
def fnExactNearestCrewRow : OpenClaim := { program := "ytgfamaopplgfgaa", sum := "db80434a7dfd134367d650b5860c6dd2adc4653c82fca1e9123a24a7bbc3b3c2", func := "loop.example/g00935/laws.FnExactNearestCrew", spec := "fnExactNearestCrew", unfollowed := true, recurses := true, apart := false }
def FnExactNearestCrewSaid : Prop := fnExactNearestCrewRow.holds Try.pinned (OpenSpec.ofChange fnExactNearestCrewSpec)

/-- ITS FALSE NEIGHBOUR: 'it returns false'. Refute it at one input. -/
def fnExactNearestCrewWrong : ChangeSpec := { name := "fnExactNearestCrew", fn := fun _ => fun
  | [d1, d2, d3, d4] => { results := [.lit (.bool false)], args := [d1, d2, d3, d4] }
  | _ => none }
def FnExactNearestCrewWrongFalsely : Prop := fnExactNearestCrewRow.holds Try.pinned (OpenSpec.ofChange fnExactNearestCrewWrong)

/-- 'laws.FnExactCrewTime': WHATEVER THE INPUT: true; the input reads as it did. -/
def fnExactCrewTimeSpec : ChangeSpec := { name := "fnExactCrewTime", fn := fun _ => fun
  | [d1, d2, d3, d4, d5] => { results := [.lit (.bool true)], args := [d1, d2, d3, d4, d5] }
  | _ => none }
def fnExactCrewTimeRow : OpenClaim := { program := "ytgfamaopplgfgaa", sum := "db80434a7dfd134367d650b5860c6dd2adc4653c82fca1e9123a24a7bbc3b3c2", func := "loop.example/g00935/laws.FnExactCrewTime", spec := "fnExactCrewTime", unfollowed := true, recurses := true, apart := false }
def FnExactCrewTimeSaid : Prop := fnExactCrewTimeRow.holds Try.pinned (OpenSpec.ofChange fnExactCrewTimeSpec)

/-- ITS FALSE NEIGHBOUR: 'it returns false'. Refute it at one input. -/
def fnExactCrewTimeWrong : ChangeSpec := { name := "fnExactCrewTime", fn := fun _ => fun
  | [d1, d2, d3, d4, d5] => { results := [.lit (.bool false)], args := [d1, d2, d3, d4, d5] }
  | _ => none }
def FnExactCrewTimeWrongFalsely : Prop := fnExactCrewTimeRow.holds Try.pinned (OpenSpec.ofChange fnExactCrewTimeWrong)

/-- 'laws.FnExactEvacuationTime': WHATEVER THE INPUT: true; the input reads as it did. -/
def fnExactEvacuationTimeSpec : ChangeSpec := { name := "fnExactEvacuationTime", fn := fun _ => fun
  | [d1, d2, d3, d4] => { results := [.lit (.bool true)], args := [d1, d2, d3, d4] }
  | _ => none }
def fnExactEvacuationTimeRow : OpenClaim := { program := "ytgfamaopplgfgaa", sum := "db80434a7dfd134367d650b5860c6dd2adc4653c82fca1e9123a24a7bbc3b3c2", func := "loop.example/g00935/laws.FnExactEvacuationTime", spec := "fnExactEvacuationTime", unfollowed := true, recurses := true, apart := false }
def FnExactEvacuationTimeSaid : Prop := fnExactEvacuationTimeRow.holds Try.pinned (OpenSpec.ofChange fnExactEvacuationTimeSpec)

/-- ITS FALSE NEIGHBOUR: 'it returns false'. Refute it at one input. -/
def fnExactEvacuationTimeWrong : ChangeSpec := { name := "fnExactEvacuationTime", fn := fun _ => fun
  | [d1, d2, d3, d4] => { results := [.lit (.bool false)], args := [d1, d2, d3, d4] }
  | _ => none }
def FnExactEvacuationTimeWrongFalsely : Prop := fnExactEvacuationTimeRow.holds Try.pinned (OpenSpec.ofChange fnExactEvacuationTimeWrong)

/-- 'laws.FnExactIdleCrews': WHATEVER THE INPUT: true; the input reads as it did. -/
def fnExactIdleCrewsSpec : ChangeSpec := { name := "fnExactIdleCrews", fn := fun _ => fun
  | [d1, d2, d3, d4] => { results := [.lit (.bool true)], args := [d1, d2, d3, d4] }
  | _ => none }
def fnExactIdleCrewsRow : OpenClaim := { program := "ytgfamaopplgfgaa", sum := "db80434a7dfd134367d650b5860c6dd2adc4653c82fca1e9123a24a7bbc3b3c2", func := "loop.example/g00935/laws.FnExactIdleCrews", spec := "fnExactIdleCrews", unfollowed := true, recurses := true, apart := false }
def FnExactIdleCrewsSaid : Prop := fnExactIdleCrewsRow.holds Try.pinned (OpenSpec.ofChange fnExactIdleCrewsSpec)

/-- ITS FALSE NEIGHBOUR: 'it returns false'. Refute it at one input. -/
def fnExactIdleCrewsWrong : ChangeSpec := { name := "fnExactIdleCrews", fn := fun _ => fun
  | [d1, d2, d3, d4] => { results := [.lit (.bool false)], args := [d1, d2, d3, d4] }
  | _ => none }
def FnExactIdleCrewsWrongFalsely : Prop := fnExactIdleCrewsRow.holds Try.pinned (OpenSpec.ofChange fnExactIdleCrewsWrong)

/-- 'laws.FnRescues': WHATEVER THE INPUT: true; the input reads as it did. -/
def fnRescuesSpec : ChangeSpec := { name := "fnRescues", fn := fun _ => fun
  | [d] => { results := [.lit (.bool true)], args := [d] }
  | _ => none }
def fnRescuesRow : OpenClaim := { program := "ytgfamaopplgfgaa", sum := "db80434a7dfd134367d650b5860c6dd2adc4653c82fca1e9123a24a7bbc3b3c2", func := "loop.example/g00935/laws.FnRescues", spec := "fnRescues", unfollowed := true, recurses := true, apart := false }
def FnRescuesSaid : Prop := fnRescuesRow.holds Try.pinned (OpenSpec.ofChange fnRescuesSpec)

/-- ITS FALSE NEIGHBOUR: 'it returns false'. Refute it at one input. -/
def fnRescuesWrong : ChangeSpec := { name := "fnRescues", fn := fun _ => fun
  | [d] => { results := [.lit (.bool false)], args := [d] }
  | _ => none }
def FnRescuesWrongFalsely : Prop := fnRescuesRow.holds Try.pinned (OpenSpec.ofChange fnRescuesWrong)

/-- 'laws.FnExactBestEvacuation': WHATEVER THE INPUT: true; the input reads as it did. -/
def fnExactBestEvacuationSpec : ChangeSpec := { name := "fnExactBestEvacuation", fn := fun _ => fun
  | [d1, d2, d3] => { results := [.lit (.bool true)], args := [d1, d2, d3] }
  | _ => none }
def fnExactBestEvacuationRow : OpenClaim := { program := "ytgfamaopplgfgaa", sum := "db80434a7dfd134367d650b5860c6dd2adc4653c82fca1e9123a24a7bbc3b3c2", func := "loop.example/g00935/laws.FnExactBestEvacuation", spec := "fnExactBestEvacuation", unfollowed := true, recurses := true, apart := false }
def FnExactBestEvacuationSaid : Prop := fnExactBestEvacuationRow.holds Try.pinned (OpenSpec.ofChange fnExactBestEvacuationSpec)

/-- ITS FALSE NEIGHBOUR: 'it returns false'. Refute it at one input. -/
def fnExactBestEvacuationWrong : ChangeSpec := { name := "fnExactBestEvacuation", fn := fun _ => fun
  | [d1, d2, d3] => { results := [.lit (.bool false)], args := [d1, d2, d3] }
  | _ => none }
def FnExactBestEvacuationWrongFalsely : Prop := fnExactBestEvacuationRow.holds Try.pinned (OpenSpec.ofChange fnExactBestEvacuationWrong)

/- THE SECOND FORM. 'bulk': how many values and letters a reading holds, each counted each time it is reached (what is shared counts as often as it is met; a slice's spare places count too). A statement '..UptoSaid' is the law's where the arguments, and the package variables that the reading takes, are together of bulk at most 1048576: NARROWER than '..Said'. Prove '..Said' where nothing that the law and all that it calls make is longer than what came in: it says more and counts as full. Else prove '..UptoSaid'. A law counts once. -/
mutual
def uptoBulk {H : Type} : DataW H → Nat
  | .lit (.string bytes) => bytes.length + 1
  | .lit _ => 1
  | .nil => 1
  | .ptr d => uptoBulk d + 1
  | .slice elems spare => uptoBulkAll elems + uptoBulkAll spare + 1
  | .agg parts => uptoBulkAll parts + 1
  | .iface _ d => uptoBulk d + 1
  | .map entries => uptoBulkEntries entries + 1
  | .held _ => 1
def uptoBulkAll {H : Type} : List (DataW H) → Nat
  | [] => 0
  | d :: r => uptoBulk d + uptoBulkAll r
def uptoBulkEntries {H : Type} : List (Lit × DataW H) → Nat
  | [] => 0
  | x :: r => uptoBulkEntry x + uptoBulkEntries r
def uptoBulkEntry {H : Type} : Lit × DataW H → Nat
  | (.string bytes, d) => bytes.length + uptoBulk d + 1
  | (_, d) => uptoBulk d + 1
 end
def uptoSmall : (H : Type) → List (DataW H) → Bool := fun _ ds => decide (uptoBulkAll ds ≤ 1048576)
def OpenSpec.upto (s : _root_.Go.ChangeSpec) : _root_.Go.OpenSpec := { _root_.Go.OpenSpec.ofChange s with cond := some uptoSmall }

/-- 'laws.FnEvacuations', WHERE WHAT IT READS IS OF BULK AT MOST 1048576: true; the input reads as it did. -/
def fnEvacuationsUptoRow : OpenClaim := { program := "ytgfamaopplgfgaa", sum := "db80434a7dfd134367d650b5860c6dd2adc4653c82fca1e9123a24a7bbc3b3c2", func := "loop.example/g00935/laws.FnEvacuations", spec := "fnEvacuations", unfollowed := true, recurses := true, apart := false, narrowed := true }
def FnEvacuationsUptoSaid : Prop := fnEvacuationsUptoRow.holds Try.pinned (OpenSpec.upto fnEvacuationsSpec)

/-- 'laws.FnExactPeopleUp', WHERE WHAT IT READS IS OF BULK AT MOST 1048576: true; the input reads as it did. -/
def fnExactPeopleUpUptoRow : OpenClaim := { program := "ytgfamaopplgfgaa", sum := "db80434a7dfd134367d650b5860c6dd2adc4653c82fca1e9123a24a7bbc3b3c2", func := "loop.example/g00935/laws.FnExactPeopleUp", spec := "fnExactPeopleUp", apart := false, narrowed := true }
def FnExactPeopleUpUptoSaid : Prop := fnExactPeopleUpUptoRow.holds Try.pinned (OpenSpec.upto fnExactPeopleUpSpec)

/-- 'laws.FnExactAreCrews', WHERE WHAT IT READS IS OF BULK AT MOST 1048576: true; the input reads as it did. -/
def fnExactAreCrewsUptoRow : OpenClaim := { program := "ytgfamaopplgfgaa", sum := "db80434a7dfd134367d650b5860c6dd2adc4653c82fca1e9123a24a7bbc3b3c2", func := "loop.example/g00935/laws.FnExactAreCrews", spec := "fnExactAreCrews", unfollowed := true, recurses := true, apart := false, narrowed := true }
def FnExactAreCrewsUptoSaid : Prop := fnExactAreCrewsUptoRow.holds Try.pinned (OpenSpec.upto fnExactAreCrewsSpec)

/-- 'laws.FnExactFullestSpan', WHERE WHAT IT READS IS OF BULK AT MOST 1048576: true; the input reads as it did. -/
def fnExactFullestSpanUptoRow : OpenClaim := { program := "ytgfamaopplgfgaa", sum := "db80434a7dfd134367d650b5860c6dd2adc4653c82fca1e9123a24a7bbc3b3c2", func := "loop.example/g00935/laws.FnExactFullestSpan", spec := "fnExactFullestSpan", apart := false, narrowed := true }
def FnExactFullestSpanUptoSaid : Prop := fnExactFullestSpanUptoRow.holds Try.pinned (OpenSpec.upto fnExactFullestSpanSpec)

/-- 'laws.FnExactSpanTime', WHERE WHAT IT READS IS OF BULK AT MOST 1048576: true; the input reads as it did. -/
def fnExactSpanTimeUptoRow : OpenClaim := { program := "ytgfamaopplgfgaa", sum := "db80434a7dfd134367d650b5860c6dd2adc4653c82fca1e9123a24a7bbc3b3c2", func := "loop.example/g00935/laws.FnExactSpanTime", spec := "fnExactSpanTime", unfollowed := true, recurses := true, apart := false, narrowed := true }
def FnExactSpanTimeUptoSaid : Prop := fnExactSpanTimeUptoRow.holds Try.pinned (OpenSpec.upto fnExactSpanTimeSpec)

/-- 'laws.FnExactNearestCrew', WHERE WHAT IT READS IS OF BULK AT MOST 1048576: true; the input reads as it did. -/
def fnExactNearestCrewUptoRow : OpenClaim := { program := "ytgfamaopplgfgaa", sum := "db80434a7dfd134367d650b5860c6dd2adc4653c82fca1e9123a24a7bbc3b3c2", func := "loop.example/g00935/laws.FnExactNearestCrew", spec := "fnExactNearestCrew", unfollowed := true, recurses := true, apart := false, narrowed := true }
def FnExactNearestCrewUptoSaid : Prop := fnExactNearestCrewUptoRow.holds Try.pinned (OpenSpec.upto fnExactNearestCrewSpec)

/-- 'laws.FnExactCrewTime', WHERE WHAT IT READS IS OF BULK AT MOST 1048576: true; the input reads as it did. -/
def fnExactCrewTimeUptoRow : OpenClaim := { program := "ytgfamaopplgfgaa", sum := "db80434a7dfd134367d650b5860c6dd2adc4653c82fca1e9123a24a7bbc3b3c2", func := "loop.example/g00935/laws.FnExactCrewTime", spec := "fnExactCrewTime", unfollowed := true, recurses := true, apart := false, narrowed := true }
def FnExactCrewTimeUptoSaid : Prop := fnExactCrewTimeUptoRow.holds Try.pinned (OpenSpec.upto fnExactCrewTimeSpec)

/-- 'laws.FnExactEvacuationTime', WHERE WHAT IT READS IS OF BULK AT MOST 1048576: true; the input reads as it did. -/
def fnExactEvacuationTimeUptoRow : OpenClaim := { program := "ytgfamaopplgfgaa", sum := "db80434a7dfd134367d650b5860c6dd2adc4653c82fca1e9123a24a7bbc3b3c2", func := "loop.example/g00935/laws.FnExactEvacuationTime", spec := "fnExactEvacuationTime", unfollowed := true, recurses := true, apart := false, narrowed := true }
def FnExactEvacuationTimeUptoSaid : Prop := fnExactEvacuationTimeUptoRow.holds Try.pinned (OpenSpec.upto fnExactEvacuationTimeSpec)

/-- 'laws.FnExactIdleCrews', WHERE WHAT IT READS IS OF BULK AT MOST 1048576: true; the input reads as it did. -/
def fnExactIdleCrewsUptoRow : OpenClaim := { program := "ytgfamaopplgfgaa", sum := "db80434a7dfd134367d650b5860c6dd2adc4653c82fca1e9123a24a7bbc3b3c2", func := "loop.example/g00935/laws.FnExactIdleCrews", spec := "fnExactIdleCrews", unfollowed := true, recurses := true, apart := false, narrowed := true }
def FnExactIdleCrewsUptoSaid : Prop := fnExactIdleCrewsUptoRow.holds Try.pinned (OpenSpec.upto fnExactIdleCrewsSpec)

/-- 'laws.FnRescues', WHERE WHAT IT READS IS OF BULK AT MOST 1048576: true; the input reads as it did. -/
def fnRescuesUptoRow : OpenClaim := { program := "ytgfamaopplgfgaa", sum := "db80434a7dfd134367d650b5860c6dd2adc4653c82fca1e9123a24a7bbc3b3c2", func := "loop.example/g00935/laws.FnRescues", spec := "fnRescues", unfollowed := true, recurses := true, apart := false, narrowed := true }
def FnRescuesUptoSaid : Prop := fnRescuesUptoRow.holds Try.pinned (OpenSpec.upto fnRescuesSpec)

/-- 'laws.FnExactBestEvacuation', WHERE WHAT IT READS IS OF BULK AT MOST 1048576: true; the input reads as it did. -/
def fnExactBestEvacuationUptoRow : OpenClaim := { program := "ytgfamaopplgfgaa", sum := "db80434a7dfd134367d650b5860c6dd2adc4653c82fca1e9123a24a7bbc3b3c2", func := "loop.example/g00935/laws.FnExactBestEvacuation", spec := "fnExactBestEvacuation", unfollowed := true, recurses := true, apart := false, narrowed := true }
def FnExactBestEvacuationUptoSaid : Prop := fnExactBestEvacuationUptoRow.holds Try.pinned (OpenSpec.upto fnExactBestEvacuationSpec)

end Rows
end Go.Proofs.Ytgfamaopplgfgaa
