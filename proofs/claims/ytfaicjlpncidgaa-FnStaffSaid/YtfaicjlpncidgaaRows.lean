/-
  No cell of these rows narrows 'for every input' (looked for: loops, veiled, ifaces, maps, wideKeys, modest, calm, conditions, laid).
  DERIVED. THE GIVEN ROWS OF THIS SEAT. 11 by the template 'for every input the law returns true; each argument reads behind the call as it read before'; 0 by the template 'total and deterministic' (their statements: YtfaicjlpncidgaaTotals.lean).
  GIVEN WITH THE SEED: the statements are not yours to turn. If you find one false, say at which input.
  Laid BY PROGRAM, IN A SANDBOX (cutbox-rows.mjs): the forced cells as the released guide's own fill.sh prints them over the translation 06fc98ebd8de33dc… (all of the seat's roots in one cut). By AI agents, Wed Nov 11 2026. No macro, syntax, notation, axiom, sorry.
-/
import Derived.Test.YtfaicjlpncidgaaChecked
import GoSem.Claim
import GoSem.ClaimJoined
import GoSem.ClaimMapViews
import Derived.JoinedTies
import Derived.KernelRfl
namespace Go.Proofs.Ytfaicjlpncidgaa
/- THE CELL 'sum', in the pinned program and in every row, IS THE sha256 OF THE DUMP (.gsa) THAT YtfaicjlpncidgaaProg.lean LOADS. Nothing in Lean hashes anything: it is a label: what it is worth is what the hold of that sum in a sandbox is worth. -/
noncomputable def Try.pinned : Pinned := { name := "ytfaicjlpncidgaa", sum := "06fc98ebd8de33dc1b70a902b7e8a230f8627808ff901222b8a5901408aebea3", checked := Try.checked }
namespace Rows
def none {H : Type} : Left H := { results := [], args := [] }

/-- 'laws.FnExactAreStaff': WHATEVER THE INPUT: true; the input reads as it did. -/
def fnExactAreStaffSpec : ChangeSpec := { name := "fnExactAreStaff", fn := fun _ => fun
  | [d] => { results := [.lit (.bool true)], args := [d] }
  | _ => none }
def fnExactAreStaffRow : OpenClaim := { program := "ytfaicjlpncidgaa", sum := "06fc98ebd8de33dc1b70a902b7e8a230f8627808ff901222b8a5901408aebea3", func := "loop.example/g00935/laws.FnExactAreStaff", spec := "fnExactAreStaff", apart := false }
def FnExactAreStaffSaid : Prop := fnExactAreStaffRow.holds Try.pinned (OpenSpec.ofChange fnExactAreStaffSpec)

/-- ITS FALSE NEIGHBOUR: 'it returns false'. Refute it at one input. -/
def fnExactAreStaffWrong : ChangeSpec := { name := "fnExactAreStaff", fn := fun _ => fun
  | [d] => { results := [.lit (.bool false)], args := [d] }
  | _ => none }
def FnExactAreStaffWrongFalsely : Prop := fnExactAreStaffRow.holds Try.pinned (OpenSpec.ofChange fnExactAreStaffWrong)

/-- 'laws.FnExactDutyCounts': WHATEVER THE INPUT: true; the input reads as it did. -/
def fnExactDutyCountsSpec : ChangeSpec := { name := "fnExactDutyCounts", fn := fun _ => fun
  | [d] => { results := [.lit (.bool true)], args := [d] }
  | _ => none }
def fnExactDutyCountsRow : OpenClaim := { program := "ytfaicjlpncidgaa", sum := "06fc98ebd8de33dc1b70a902b7e8a230f8627808ff901222b8a5901408aebea3", func := "loop.example/g00935/laws.FnExactDutyCounts", spec := "fnExactDutyCounts", apart := false }
def FnExactDutyCountsSaid : Prop := fnExactDutyCountsRow.holds Try.pinned (OpenSpec.ofChange fnExactDutyCountsSpec)

/-- ITS FALSE NEIGHBOUR: 'it returns false'. Refute it at one input. -/
def fnExactDutyCountsWrong : ChangeSpec := { name := "fnExactDutyCounts", fn := fun _ => fun
  | [d] => { results := [.lit (.bool false)], args := [d] }
  | _ => none }
def FnExactDutyCountsWrongFalsely : Prop := fnExactDutyCountsRow.holds Try.pinned (OpenSpec.ofChange fnExactDutyCountsWrong)

/-- 'laws.FnExactIsPlan': WHATEVER THE INPUT: true; the input reads as it did. -/
def fnExactIsPlanSpec : ChangeSpec := { name := "fnExactIsPlan", fn := fun _ => fun
  | [d1, d2] => { results := [.lit (.bool true)], args := [d1, d2] }
  | _ => none }
def fnExactIsPlanRow : OpenClaim := { program := "ytfaicjlpncidgaa", sum := "06fc98ebd8de33dc1b70a902b7e8a230f8627808ff901222b8a5901408aebea3", func := "loop.example/g00935/laws.FnExactIsPlan", spec := "fnExactIsPlan", unfollowed := true, recurses := true, apart := false }
def FnExactIsPlanSaid : Prop := fnExactIsPlanRow.holds Try.pinned (OpenSpec.ofChange fnExactIsPlanSpec)

/-- ITS FALSE NEIGHBOUR: 'it returns false'. Refute it at one input. -/
def fnExactIsPlanWrong : ChangeSpec := { name := "fnExactIsPlan", fn := fun _ => fun
  | [d1, d2] => { results := [.lit (.bool false)], args := [d1, d2] }
  | _ => none }
def FnExactIsPlanWrongFalsely : Prop := fnExactIsPlanRow.holds Try.pinned (OpenSpec.ofChange fnExactIsPlanWrong)

/-- 'laws.FnExactHoursOf': WHATEVER THE INPUT: true; the input reads as it did. -/
def fnExactHoursOfSpec : ChangeSpec := { name := "fnExactHoursOf", fn := fun _ => fun
  | [d1, d2, d3] => { results := [.lit (.bool true)], args := [d1, d2, d3] }
  | _ => none }
def fnExactHoursOfRow : OpenClaim := { program := "ytfaicjlpncidgaa", sum := "06fc98ebd8de33dc1b70a902b7e8a230f8627808ff901222b8a5901408aebea3", func := "loop.example/g00935/laws.FnExactHoursOf", spec := "fnExactHoursOf", unfollowed := true, recurses := true, apart := false }
def FnExactHoursOfSaid : Prop := fnExactHoursOfRow.holds Try.pinned (OpenSpec.ofChange fnExactHoursOfSpec)

/-- ITS FALSE NEIGHBOUR: 'it returns false'. Refute it at one input. -/
def fnExactHoursOfWrong : ChangeSpec := { name := "fnExactHoursOf", fn := fun _ => fun
  | [d1, d2, d3] => { results := [.lit (.bool false)], args := [d1, d2, d3] }
  | _ => none }
def FnExactHoursOfWrongFalsely : Prop := fnExactHoursOfRow.holds Try.pinned (OpenSpec.ofChange fnExactHoursOfWrong)

/-- 'laws.FnExactSickWorker': WHATEVER THE INPUT: true; the input reads as it did. -/
def fnExactSickWorkerSpec : ChangeSpec := { name := "fnExactSickWorker", fn := fun _ => fun
  | [d1, d2, d3, d4] => { results := [.lit (.bool true)], args := [d1, d2, d3, d4] }
  | _ => none }
def fnExactSickWorkerRow : OpenClaim := { program := "ytfaicjlpncidgaa", sum := "06fc98ebd8de33dc1b70a902b7e8a230f8627808ff901222b8a5901408aebea3", func := "loop.example/g00935/laws.FnExactSickWorker", spec := "fnExactSickWorker", unfollowed := true, recurses := true, apart := false }
def FnExactSickWorkerSaid : Prop := fnExactSickWorkerRow.holds Try.pinned (OpenSpec.ofChange fnExactSickWorkerSpec)

/-- ITS FALSE NEIGHBOUR: 'it returns false'. Refute it at one input. -/
def fnExactSickWorkerWrong : ChangeSpec := { name := "fnExactSickWorker", fn := fun _ => fun
  | [d1, d2, d3, d4] => { results := [.lit (.bool false)], args := [d1, d2, d3, d4] }
  | _ => none }
def FnExactSickWorkerWrongFalsely : Prop := fnExactSickWorkerRow.holds Try.pinned (OpenSpec.ofChange fnExactSickWorkerWrong)

/-- 'laws.FnStaff': WHATEVER THE INPUT: true; the input reads as it did. -/
def fnStaffSpec : ChangeSpec := { name := "fnStaff", fn := fun _ => fun
  | [d] => { results := [.lit (.bool true)], args := [d] }
  | _ => none }
def fnStaffRow : OpenClaim := { program := "ytfaicjlpncidgaa", sum := "06fc98ebd8de33dc1b70a902b7e8a230f8627808ff901222b8a5901408aebea3", func := "loop.example/g00935/laws.FnStaff", spec := "fnStaff", unfollowed := true, recurses := true, apart := false }
def FnStaffSaid : Prop := fnStaffRow.holds Try.pinned (OpenSpec.ofChange fnStaffSpec)

/-- ITS FALSE NEIGHBOUR: 'it returns false'. Refute it at one input. -/
def fnStaffWrong : ChangeSpec := { name := "fnStaff", fn := fun _ => fun
  | [d] => { results := [.lit (.bool false)], args := [d] }
  | _ => none }
def FnStaffWrongFalsely : Prop := fnStaffRow.holds Try.pinned (OpenSpec.ofChange fnStaffWrong)

/-- 'laws.FnExactUncoveredParts': WHATEVER THE INPUT: true; the input reads as it did. -/
def fnExactUncoveredPartsSpec : ChangeSpec := { name := "fnExactUncoveredParts", fn := fun _ => fun
  | [d1, d2] => { results := [.lit (.bool true)], args := [d1, d2] }
  | _ => none }
def fnExactUncoveredPartsRow : OpenClaim := { program := "ytfaicjlpncidgaa", sum := "06fc98ebd8de33dc1b70a902b7e8a230f8627808ff901222b8a5901408aebea3", func := "loop.example/g00935/laws.FnExactUncoveredParts", spec := "fnExactUncoveredParts", unfollowed := true, recurses := true, apart := false }
def FnExactUncoveredPartsSaid : Prop := fnExactUncoveredPartsRow.holds Try.pinned (OpenSpec.ofChange fnExactUncoveredPartsSpec)

/-- ITS FALSE NEIGHBOUR: 'it returns false'. Refute it at one input. -/
def fnExactUncoveredPartsWrong : ChangeSpec := { name := "fnExactUncoveredParts", fn := fun _ => fun
  | [d1, d2] => { results := [.lit (.bool false)], args := [d1, d2] }
  | _ => none }
def FnExactUncoveredPartsWrongFalsely : Prop := fnExactUncoveredPartsRow.holds Try.pinned (OpenSpec.ofChange fnExactUncoveredPartsWrong)

/-- 'laws.FnExactPutShift': WHATEVER THE INPUT: true; the input reads as it did. -/
def fnExactPutShiftSpec : ChangeSpec := { name := "fnExactPutShift", fn := fun _ => fun
  | [d1, d2, d3] => { results := [.lit (.bool true)], args := [d1, d2, d3] }
  | _ => none }
def fnExactPutShiftRow : OpenClaim := { program := "ytfaicjlpncidgaa", sum := "06fc98ebd8de33dc1b70a902b7e8a230f8627808ff901222b8a5901408aebea3", func := "loop.example/g00935/laws.FnExactPutShift", spec := "fnExactPutShift", inPlace := ["slices.overlaps[loop.example/g00935/impl.Shift]"], unfollowed := true, recurses := true, apart := false }
def FnExactPutShiftSaid : Prop := fnExactPutShiftRow.holds Try.pinned (OpenSpec.ofChange fnExactPutShiftSpec)

/-- ITS FALSE NEIGHBOUR: 'it returns false'. Refute it at one input. -/
def fnExactPutShiftWrong : ChangeSpec := { name := "fnExactPutShift", fn := fun _ => fun
  | [d1, d2, d3] => { results := [.lit (.bool false)], args := [d1, d2, d3] }
  | _ => none }
def FnExactPutShiftWrongFalsely : Prop := fnExactPutShiftRow.holds Try.pinned (OpenSpec.ofChange fnExactPutShiftWrong)

/-- 'laws.FnExactWhoCan': WHATEVER THE INPUT: true; the input reads as it did. -/
def fnExactWhoCanSpec : ChangeSpec := { name := "fnExactWhoCan", fn := fun _ => fun
  | [d1, d2, d3, d4, d5] => { results := [.lit (.bool true)], args := [d1, d2, d3, d4, d5] }
  | _ => none }
def fnExactWhoCanRow : OpenClaim := { program := "ytfaicjlpncidgaa", sum := "06fc98ebd8de33dc1b70a902b7e8a230f8627808ff901222b8a5901408aebea3", func := "loop.example/g00935/laws.FnExactWhoCan", spec := "fnExactWhoCan", inPlace := ["slices.overlaps[loop.example/g00935/impl.Shift]"], unfollowed := true, recurses := true, apart := false }
def FnExactWhoCanSaid : Prop := fnExactWhoCanRow.holds Try.pinned (OpenSpec.ofChange fnExactWhoCanSpec)

/-- ITS FALSE NEIGHBOUR: 'it returns false'. Refute it at one input. -/
def fnExactWhoCanWrong : ChangeSpec := { name := "fnExactWhoCan", fn := fun _ => fun
  | [d1, d2, d3, d4, d5] => { results := [.lit (.bool false)], args := [d1, d2, d3, d4, d5] }
  | _ => none }
def FnExactWhoCanWrongFalsely : Prop := fnExactWhoCanRow.holds Try.pinned (OpenSpec.ofChange fnExactWhoCanWrong)

/-- 'laws.FnExactFillPart': WHATEVER THE INPUT: true; the input reads as it did. -/
def fnExactFillPartSpec : ChangeSpec := { name := "fnExactFillPart", fn := fun _ => fun
  | [d1, d2, d3, d4] => { results := [.lit (.bool true)], args := [d1, d2, d3, d4] }
  | _ => none }
def fnExactFillPartRow : OpenClaim := { program := "ytfaicjlpncidgaa", sum := "06fc98ebd8de33dc1b70a902b7e8a230f8627808ff901222b8a5901408aebea3", func := "loop.example/g00935/laws.FnExactFillPart", spec := "fnExactFillPart", inPlace := ["slices.overlaps[loop.example/g00935/impl.Shift]"], unfollowed := true, recurses := true, apart := false }
def FnExactFillPartSaid : Prop := fnExactFillPartRow.holds Try.pinned (OpenSpec.ofChange fnExactFillPartSpec)

/-- ITS FALSE NEIGHBOUR: 'it returns false'. Refute it at one input. -/
def fnExactFillPartWrong : ChangeSpec := { name := "fnExactFillPart", fn := fun _ => fun
  | [d1, d2, d3, d4] => { results := [.lit (.bool false)], args := [d1, d2, d3, d4] }
  | _ => none }
def FnExactFillPartWrongFalsely : Prop := fnExactFillPartRow.holds Try.pinned (OpenSpec.ofChange fnExactFillPartWrong)

/-- 'laws.FnShifts': WHATEVER THE INPUT: true; the input reads as it did. -/
def fnShiftsSpec : ChangeSpec := { name := "fnShifts", fn := fun _ => fun
  | [d] => { results := [.lit (.bool true)], args := [d] }
  | _ => none }
def fnShiftsRow : OpenClaim := { program := "ytfaicjlpncidgaa", sum := "06fc98ebd8de33dc1b70a902b7e8a230f8627808ff901222b8a5901408aebea3", func := "loop.example/g00935/laws.FnShifts", spec := "fnShifts", inPlace := ["slices.overlaps[loop.example/g00935/impl.Shift]"], unfollowed := true, recurses := true, apart := false }
def FnShiftsSaid : Prop := fnShiftsRow.holds Try.pinned (OpenSpec.ofChange fnShiftsSpec)

/-- ITS FALSE NEIGHBOUR: 'it returns false'. Refute it at one input. -/
def fnShiftsWrong : ChangeSpec := { name := "fnShifts", fn := fun _ => fun
  | [d] => { results := [.lit (.bool false)], args := [d] }
  | _ => none }
def FnShiftsWrongFalsely : Prop := fnShiftsRow.holds Try.pinned (OpenSpec.ofChange fnShiftsWrong)

/- THE SECOND FORM. 'bulk': how many values and letters a reading holds, each counted each time it is reached (what is shared counts as often as it is met; a slice's spare places count too). A statement '..UptoSaid' is the law's where the arguments, and the package variables that the reading takes, are together of bulk at most 1048576: NARROWER than '..Said'. Prove '..Said' where nothing that the law and all that it calls make is longer than what came in: it says more and counts as full. Else prove '..UptoSaid'. A law counts once. -/
mutual
def uptoBulk {H : Type} : DataW H → Nat
  | .lit (.string bytes) => bytes.length + 1
  | .lit _ => 1
  | .nil => 1
  | .ptr d => uptoBulk d + 1
  | .slice elems spare => uptoBulkAll elems + uptoBulkAll spare + 1
  | .agg parts => uptoBulkAll parts + 1
  | .iface _ d => uptoBulk d + 1
  | .map entries => uptoBulkEntries entries + 1
  | .held _ => 1
def uptoBulkAll {H : Type} : List (DataW H) → Nat
  | [] => 0
  | d :: r => uptoBulk d + uptoBulkAll r
def uptoBulkEntries {H : Type} : List (Lit × DataW H) → Nat
  | [] => 0
  | x :: r => uptoBulkEntry x + uptoBulkEntries r
def uptoBulkEntry {H : Type} : Lit × DataW H → Nat
  | (.string bytes, d) => bytes.length + uptoBulk d + 1
  | (_, d) => uptoBulk d + 1
 end
def uptoSmall : (H : Type) → List (DataW H) → Bool := fun _ ds => decide (uptoBulkAll ds ≤ 1048576)
def OpenSpec.upto (s : _root_.Go.ChangeSpec) : _root_.Go.OpenSpec := { _root_.Go.OpenSpec.ofChange s with cond := some uptoSmall }

/-- 'laws.FnExactAreStaff', WHERE WHAT IT READS IS OF BULK AT MOST 1048576: true; the input reads as it did. -/
def fnExactAreStaffUptoRow : OpenClaim := { program := "ytfaicjlpncidgaa", sum := "06fc98ebd8de33dc1b70a902b7e8a230f8627808ff901222b8a5901408aebea3", func := "loop.example/g00935/laws.FnExactAreStaff", spec := "fnExactAreStaff", apart := false, narrowed := true }
def FnExactAreStaffUptoSaid : Prop := fnExactAreStaffUptoRow.holds Try.pinned (OpenSpec.upto fnExactAreStaffSpec)

/-- 'laws.FnExactDutyCounts', WHERE WHAT IT READS IS OF BULK AT MOST 1048576: true; the input reads as it did. -/
def fnExactDutyCountsUptoRow : OpenClaim := { program := "ytfaicjlpncidgaa", sum := "06fc98ebd8de33dc1b70a902b7e8a230f8627808ff901222b8a5901408aebea3", func := "loop.example/g00935/laws.FnExactDutyCounts", spec := "fnExactDutyCounts", apart := false, narrowed := true }
def FnExactDutyCountsUptoSaid : Prop := fnExactDutyCountsUptoRow.holds Try.pinned (OpenSpec.upto fnExactDutyCountsSpec)

/-- 'laws.FnExactIsPlan', WHERE WHAT IT READS IS OF BULK AT MOST 1048576: true; the input reads as it did. -/
def fnExactIsPlanUptoRow : OpenClaim := { program := "ytfaicjlpncidgaa", sum := "06fc98ebd8de33dc1b70a902b7e8a230f8627808ff901222b8a5901408aebea3", func := "loop.example/g00935/laws.FnExactIsPlan", spec := "fnExactIsPlan", unfollowed := true, recurses := true, apart := false, narrowed := true }
def FnExactIsPlanUptoSaid : Prop := fnExactIsPlanUptoRow.holds Try.pinned (OpenSpec.upto fnExactIsPlanSpec)

/-- 'laws.FnExactHoursOf', WHERE WHAT IT READS IS OF BULK AT MOST 1048576: true; the input reads as it did. -/
def fnExactHoursOfUptoRow : OpenClaim := { program := "ytfaicjlpncidgaa", sum := "06fc98ebd8de33dc1b70a902b7e8a230f8627808ff901222b8a5901408aebea3", func := "loop.example/g00935/laws.FnExactHoursOf", spec := "fnExactHoursOf", unfollowed := true, recurses := true, apart := false, narrowed := true }
def FnExactHoursOfUptoSaid : Prop := fnExactHoursOfUptoRow.holds Try.pinned (OpenSpec.upto fnExactHoursOfSpec)

/-- 'laws.FnExactSickWorker', WHERE WHAT IT READS IS OF BULK AT MOST 1048576: true; the input reads as it did. -/
def fnExactSickWorkerUptoRow : OpenClaim := { program := "ytfaicjlpncidgaa", sum := "06fc98ebd8de33dc1b70a902b7e8a230f8627808ff901222b8a5901408aebea3", func := "loop.example/g00935/laws.FnExactSickWorker", spec := "fnExactSickWorker", unfollowed := true, recurses := true, apart := false, narrowed := true }
def FnExactSickWorkerUptoSaid : Prop := fnExactSickWorkerUptoRow.holds Try.pinned (OpenSpec.upto fnExactSickWorkerSpec)

/-- 'laws.FnStaff', WHERE WHAT IT READS IS OF BULK AT MOST 1048576: true; the input reads as it did. -/
def fnStaffUptoRow : OpenClaim := { program := "ytfaicjlpncidgaa", sum := "06fc98ebd8de33dc1b70a902b7e8a230f8627808ff901222b8a5901408aebea3", func := "loop.example/g00935/laws.FnStaff", spec := "fnStaff", unfollowed := true, recurses := true, apart := false, narrowed := true }
def FnStaffUptoSaid : Prop := fnStaffUptoRow.holds Try.pinned (OpenSpec.upto fnStaffSpec)

/-- 'laws.FnExactUncoveredParts', WHERE WHAT IT READS IS OF BULK AT MOST 1048576: true; the input reads as it did. -/
def fnExactUncoveredPartsUptoRow : OpenClaim := { program := "ytfaicjlpncidgaa", sum := "06fc98ebd8de33dc1b70a902b7e8a230f8627808ff901222b8a5901408aebea3", func := "loop.example/g00935/laws.FnExactUncoveredParts", spec := "fnExactUncoveredParts", unfollowed := true, recurses := true, apart := false, narrowed := true }
def FnExactUncoveredPartsUptoSaid : Prop := fnExactUncoveredPartsUptoRow.holds Try.pinned (OpenSpec.upto fnExactUncoveredPartsSpec)

/-- 'laws.FnExactPutShift', WHERE WHAT IT READS IS OF BULK AT MOST 1048576: true; the input reads as it did. -/
def fnExactPutShiftUptoRow : OpenClaim := { program := "ytfaicjlpncidgaa", sum := "06fc98ebd8de33dc1b70a902b7e8a230f8627808ff901222b8a5901408aebea3", func := "loop.example/g00935/laws.FnExactPutShift", spec := "fnExactPutShift", inPlace := ["slices.overlaps[loop.example/g00935/impl.Shift]"], unfollowed := true, recurses := true, apart := false, narrowed := true }
def FnExactPutShiftUptoSaid : Prop := fnExactPutShiftUptoRow.holds Try.pinned (OpenSpec.upto fnExactPutShiftSpec)

/-- 'laws.FnExactWhoCan', WHERE WHAT IT READS IS OF BULK AT MOST 1048576: true; the input reads as it did. -/
def fnExactWhoCanUptoRow : OpenClaim := { program := "ytfaicjlpncidgaa", sum := "06fc98ebd8de33dc1b70a902b7e8a230f8627808ff901222b8a5901408aebea3", func := "loop.example/g00935/laws.FnExactWhoCan", spec := "fnExactWhoCan", inPlace := ["slices.overlaps[loop.example/g00935/impl.Shift]"], unfollowed := true, recurses := true, apart := false, narrowed := true }
def FnExactWhoCanUptoSaid : Prop := fnExactWhoCanUptoRow.holds Try.pinned (OpenSpec.upto fnExactWhoCanSpec)

/-- 'laws.FnExactFillPart', WHERE WHAT IT READS IS OF BULK AT MOST 1048576: true; the input reads as it did. -/
def fnExactFillPartUptoRow : OpenClaim := { program := "ytfaicjlpncidgaa", sum := "06fc98ebd8de33dc1b70a902b7e8a230f8627808ff901222b8a5901408aebea3", func := "loop.example/g00935/laws.FnExactFillPart", spec := "fnExactFillPart", inPlace := ["slices.overlaps[loop.example/g00935/impl.Shift]"], unfollowed := true, recurses := true, apart := false, narrowed := true }
def FnExactFillPartUptoSaid : Prop := fnExactFillPartUptoRow.holds Try.pinned (OpenSpec.upto fnExactFillPartSpec)

/-- 'laws.FnShifts', WHERE WHAT IT READS IS OF BULK AT MOST 1048576: true; the input reads as it did. -/
def fnShiftsUptoRow : OpenClaim := { program := "ytfaicjlpncidgaa", sum := "06fc98ebd8de33dc1b70a902b7e8a230f8627808ff901222b8a5901408aebea3", func := "loop.example/g00935/laws.FnShifts", spec := "fnShifts", inPlace := ["slices.overlaps[loop.example/g00935/impl.Shift]"], unfollowed := true, recurses := true, apart := false, narrowed := true }
def FnShiftsUptoSaid : Prop := fnShiftsUptoRow.holds Try.pinned (OpenSpec.upto fnShiftsSpec)

end Rows
end Go.Proofs.Ytfaicjlpncidgaa
