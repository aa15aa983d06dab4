/-
  No cell of these rows narrows 'for every input' (looked for: loops, veiled, ifaces, maps, wideKeys, modest, calm, conditions, laid).
  DERIVED. THE GIVEN ROWS OF THIS SEAT. 10 by the template 'for every input the law returns true; each argument reads behind the call as it read before'; 0 by the template 'total and deterministic' (their statements: YtlphegjhkchglaaTotals.lean).
  GIVEN WITH THE SEED: the statements are not yours to turn. If you find one false, say at which input.
  Laid BY PROGRAM, IN A SANDBOX (cutbox-rows.mjs): the forced cells as the released guide's own fill.sh prints them over the translation 418a20acabe210b4… (all of the seat's roots in one cut). By AI agents, Wed Nov 11 2026. No macro, syntax, notation, axiom, sorry.
-/
import Derived.Test.YtlphegjhkchglaaChecked
import GoSem.Claim
import GoSem.ClaimJoined
import GoSem.ClaimMapViews
import Derived.JoinedTies
import Derived.KernelRfl
namespace Go.Proofs.Ytlphegjhkchglaa
/- THE CELL 'sum', in the pinned program and in every row, IS THE sha256 OF THE DUMP (.gsa) THAT YtlphegjhkchglaaProg.lean LOADS. Nothing in Lean hashes anything: it is a label: what it is worth is what the hold of that sum in a sandbox is worth. -/
noncomputable def Try.pinned : Pinned := { name := "ytlphegjhkchglaa", sum := "418a20acabe210b4c4b3bcb8a45700f607e3f98a595c3405f122a9c25263014e", checked := Try.checked }
namespace Rows
def none {H : Type} : Left H := { results := [], args := [] }

/-- 'laws.FnExactAreParts': WHATEVER THE INPUT: true; the input reads as it did. -/
def fnExactArePartsSpec : ChangeSpec := { name := "fnExactAreParts", fn := fun _ => fun
  | [d] => { results := [.lit (.bool true)], args := [d] }
  | _ => none }
def fnExactArePartsRow : OpenClaim := { program := "ytlphegjhkchglaa", sum := "418a20acabe210b4c4b3bcb8a45700f607e3f98a595c3405f122a9c25263014e", func := "loop.example/g00935/laws.FnExactAreParts", spec := "fnExactAreParts", apart := false }
def FnExactArePartsSaid : Prop := fnExactArePartsRow.holds Try.pinned (OpenSpec.ofChange fnExactArePartsSpec)

/-- ITS FALSE NEIGHBOUR: 'it returns false'. Refute it at one input. -/
def fnExactArePartsWrong : ChangeSpec := { name := "fnExactAreParts", fn := fun _ => fun
  | [d] => { results := [.lit (.bool false)], args := [d] }
  | _ => none }
def FnExactArePartsWrongFalsely : Prop := fnExactArePartsRow.holds Try.pinned (OpenSpec.ofChange fnExactArePartsWrong)

/-- 'laws.FnExactDearestPart': WHATEVER THE INPUT: true; the input reads as it did. -/
def fnExactDearestPartSpec : ChangeSpec := { name := "fnExactDearestPart", fn := fun _ => fun
  | [d] => { results := [.lit (.bool true)], args := [d] }
  | _ => none }
def fnExactDearestPartRow : OpenClaim := { program := "ytlphegjhkchglaa", sum := "418a20acabe210b4c4b3bcb8a45700f607e3f98a595c3405f122a9c25263014e", func := "loop.example/g00935/laws.FnExactDearestPart", spec := "fnExactDearestPart", apart := false }
def FnExactDearestPartSaid : Prop := fnExactDearestPartRow.holds Try.pinned (OpenSpec.ofChange fnExactDearestPartSpec)

/-- ITS FALSE NEIGHBOUR: 'it returns false'. Refute it at one input. -/
def fnExactDearestPartWrong : ChangeSpec := { name := "fnExactDearestPart", fn := fun _ => fun
  | [d] => { results := [.lit (.bool false)], args := [d] }
  | _ => none }
def FnExactDearestPartWrongFalsely : Prop := fnExactDearestPartRow.holds Try.pinned (OpenSpec.ofChange fnExactDearestPartWrong)

/-- 'laws.FnExactCostOfAll': WHATEVER THE INPUT: true; the input reads as it did. -/
def fnExactCostOfAllSpec : ChangeSpec := { name := "fnExactCostOfAll", fn := fun _ => fun
  | [d] => { results := [.lit (.bool true)], args := [d] }
  | _ => none }
def fnExactCostOfAllRow : OpenClaim := { program := "ytlphegjhkchglaa", sum := "418a20acabe210b4c4b3bcb8a45700f607e3f98a595c3405f122a9c25263014e", func := "loop.example/g00935/laws.FnExactCostOfAll", spec := "fnExactCostOfAll", apart := false }
def FnExactCostOfAllSaid : Prop := fnExactCostOfAllRow.holds Try.pinned (OpenSpec.ofChange fnExactCostOfAllSpec)

/-- ITS FALSE NEIGHBOUR: 'it returns false'. Refute it at one input. -/
def fnExactCostOfAllWrong : ChangeSpec := { name := "fnExactCostOfAll", fn := fun _ => fun
  | [d] => { results := [.lit (.bool false)], args := [d] }
  | _ => none }
def FnExactCostOfAllWrongFalsely : Prop := fnExactCostOfAllRow.holds Try.pinned (OpenSpec.ofChange fnExactCostOfAllWrong)

/-- 'laws.FnExactToOrder': WHATEVER THE INPUT: true; the input reads as it did. -/
def fnExactToOrderSpec : ChangeSpec := { name := "fnExactToOrder", fn := fun _ => fun
  | [d] => { results := [.lit (.bool true)], args := [d] }
  | _ => none }
def fnExactToOrderRow : OpenClaim := { program := "ytlphegjhkchglaa", sum := "418a20acabe210b4c4b3bcb8a45700f607e3f98a595c3405f122a9c25263014e", func := "loop.example/g00935/laws.FnExactToOrder", spec := "fnExactToOrder", apart := false }
def FnExactToOrderSaid : Prop := fnExactToOrderRow.holds Try.pinned (OpenSpec.ofChange fnExactToOrderSpec)

/-- ITS FALSE NEIGHBOUR: 'it returns false'. Refute it at one input. -/
def fnExactToOrderWrong : ChangeSpec := { name := "fnExactToOrder", fn := fun _ => fun
  | [d] => { results := [.lit (.bool false)], args := [d] }
  | _ => none }
def FnExactToOrderWrongFalsely : Prop := fnExactToOrderRow.holds Try.pinned (OpenSpec.ofChange fnExactToOrderWrong)

/-- 'laws.FnExactAreUses': WHATEVER THE INPUT: true; the input reads as it did. -/
def fnExactAreUsesSpec : ChangeSpec := { name := "fnExactAreUses", fn := fun _ => fun
  | [d1, d2] => { results := [.lit (.bool true)], args := [d1, d2] }
  | _ => none }
def fnExactAreUsesRow : OpenClaim := { program := "ytlphegjhkchglaa", sum := "418a20acabe210b4c4b3bcb8a45700f607e3f98a595c3405f122a9c25263014e", func := "loop.example/g00935/laws.FnExactAreUses", spec := "fnExactAreUses", unfollowed := true, recurses := true, apart := false }
def FnExactAreUsesSaid : Prop := fnExactAreUsesRow.holds Try.pinned (OpenSpec.ofChange fnExactAreUsesSpec)

/-- ITS FALSE NEIGHBOUR: 'it returns false'. Refute it at one input. -/
def fnExactAreUsesWrong : ChangeSpec := { name := "fnExactAreUses", fn := fun _ => fun
  | [d1, d2] => { results := [.lit (.bool false)], args := [d1, d2] }
  | _ => none }
def FnExactAreUsesWrongFalsely : Prop := fnExactAreUsesRow.holds Try.pinned (OpenSpec.ofChange fnExactAreUsesWrong)

/-- 'laws.FnExactAddStock': WHATEVER THE INPUT: true; the input reads as it did. -/
def fnExactAddStockSpec : ChangeSpec := { name := "fnExactAddStock", fn := fun _ => fun
  | [d1, d2, d3] => { results := [.lit (.bool true)], args := [d1, d2, d3] }
  | _ => none }
def fnExactAddStockRow : OpenClaim := { program := "ytlphegjhkchglaa", sum := "418a20acabe210b4c4b3bcb8a45700f607e3f98a595c3405f122a9c25263014e", func := "loop.example/g00935/laws.FnExactAddStock", spec := "fnExactAddStock", unfollowed := true, recurses := true, apart := false }
def FnExactAddStockSaid : Prop := fnExactAddStockRow.holds Try.pinned (OpenSpec.ofChange fnExactAddStockSpec)

/-- ITS FALSE NEIGHBOUR: 'it returns false'. Refute it at one input. -/
def fnExactAddStockWrong : ChangeSpec := { name := "fnExactAddStock", fn := fun _ => fun
  | [d1, d2, d3] => { results := [.lit (.bool false)], args := [d1, d2, d3] }
  | _ => none }
def FnExactAddStockWrongFalsely : Prop := fnExactAddStockRow.holds Try.pinned (OpenSpec.ofChange fnExactAddStockWrong)

/-- 'laws.FnExactOrderBy': WHATEVER THE INPUT: true; the input reads as it did. -/
def fnExactOrderBySpec : ChangeSpec := { name := "fnExactOrderBy", fn := fun _ => fun
  | [d1, d2, d3] => { results := [.lit (.bool true)], args := [d1, d2, d3] }
  | _ => none }
def fnExactOrderByRow : OpenClaim := { program := "ytlphegjhkchglaa", sum := "418a20acabe210b4c4b3bcb8a45700f607e3f98a595c3405f122a9c25263014e", func := "loop.example/g00935/laws.FnExactOrderBy", spec := "fnExactOrderBy", unfollowed := true, recurses := true, apart := false }
def FnExactOrderBySaid : Prop := fnExactOrderByRow.holds Try.pinned (OpenSpec.ofChange fnExactOrderBySpec)

/-- ITS FALSE NEIGHBOUR: 'it returns false'. Refute it at one input. -/
def fnExactOrderByWrong : ChangeSpec := { name := "fnExactOrderBy", fn := fun _ => fun
  | [d1, d2, d3] => { results := [.lit (.bool false)], args := [d1, d2, d3] }
  | _ => none }
def FnExactOrderByWrongFalsely : Prop := fnExactOrderByRow.holds Try.pinned (OpenSpec.ofChange fnExactOrderByWrong)

/-- 'laws.FnExactMissedUses': WHATEVER THE INPUT: true; the input reads as it did. -/
def fnExactMissedUsesSpec : ChangeSpec := { name := "fnExactMissedUses", fn := fun _ => fun
  | [d1, d2] => { results := [.lit (.bool true)], args := [d1, d2] }
  | _ => none }
def fnExactMissedUsesRow : OpenClaim := { program := "ytlphegjhkchglaa", sum := "418a20acabe210b4c4b3bcb8a45700f607e3f98a595c3405f122a9c25263014e", func := "loop.example/g00935/laws.FnExactMissedUses", spec := "fnExactMissedUses", unfollowed := true, recurses := true, apart := false }
def FnExactMissedUsesSaid : Prop := fnExactMissedUsesRow.holds Try.pinned (OpenSpec.ofChange fnExactMissedUsesSpec)

/-- ITS FALSE NEIGHBOUR: 'it returns false'. Refute it at one input. -/
def fnExactMissedUsesWrong : ChangeSpec := { name := "fnExactMissedUses", fn := fun _ => fun
  | [d1, d2] => { results := [.lit (.bool false)], args := [d1, d2] }
  | _ => none }
def FnExactMissedUsesWrongFalsely : Prop := fnExactMissedUsesRow.holds Try.pinned (OpenSpec.ofChange fnExactMissedUsesWrong)

/-- 'laws.FnExactStockAfter': WHATEVER THE INPUT: true; the input reads as it did. -/
def fnExactStockAfterSpec : ChangeSpec := { name := "fnExactStockAfter", fn := fun _ => fun
  | [d1, d2, d3] => { results := [.lit (.bool true)], args := [d1, d2, d3] }
  | _ => none }
def fnExactStockAfterRow : OpenClaim := { program := "ytlphegjhkchglaa", sum := "418a20acabe210b4c4b3bcb8a45700f607e3f98a595c3405f122a9c25263014e", func := "loop.example/g00935/laws.FnExactStockAfter", spec := "fnExactStockAfter", unfollowed := true, recurses := true, apart := false }
def FnExactStockAfterSaid : Prop := fnExactStockAfterRow.holds Try.pinned (OpenSpec.ofChange fnExactStockAfterSpec)

/-- ITS FALSE NEIGHBOUR: 'it returns false'. Refute it at one input. -/
def fnExactStockAfterWrong : ChangeSpec := { name := "fnExactStockAfter", fn := fun _ => fun
  | [d1, d2, d3] => { results := [.lit (.bool false)], args := [d1, d2, d3] }
  | _ => none }
def FnExactStockAfterWrongFalsely : Prop := fnExactStockAfterRow.holds Try.pinned (OpenSpec.ofChange fnExactStockAfterWrong)

/-- 'laws.FnParts': WHATEVER THE INPUT: true; the input reads as it did. -/
def fnPartsSpec : ChangeSpec := { name := "fnParts", fn := fun _ => fun
  | [d] => { results := [.lit (.bool true)], args := [d] }
  | _ => none }
def fnPartsRow : OpenClaim := { program := "ytlphegjhkchglaa", sum := "418a20acabe210b4c4b3bcb8a45700f607e3f98a595c3405f122a9c25263014e", func := "loop.example/g00935/laws.FnParts", spec := "fnParts", unfollowed := true, recurses := true, apart := false }
def FnPartsSaid : Prop := fnPartsRow.holds Try.pinned (OpenSpec.ofChange fnPartsSpec)

/-- ITS FALSE NEIGHBOUR: 'it returns false'. Refute it at one input. -/
def fnPartsWrong : ChangeSpec := { name := "fnParts", fn := fun _ => fun
  | [d] => { results := [.lit (.bool false)], args := [d] }
  | _ => none }
def FnPartsWrongFalsely : Prop := fnPartsRow.holds Try.pinned (OpenSpec.ofChange fnPartsWrong)

/- THE SECOND FORM. 'bulk': how many values and letters a reading holds, each counted each time it is reached (what is shared counts as often as it is met; a slice's spare places count too). A statement '..UptoSaid' is the law's where the arguments, and the package variables that the reading takes, are together of bulk at most 1048576: NARROWER than '..Said'. Prove '..Said' where nothing that the law and all that it calls make is longer than what came in: it says more and counts as full. Else prove '..UptoSaid'. A law counts once. -/
mutual
def uptoBulk {H : Type} : DataW H → Nat
  | .lit (.string bytes) => bytes.length + 1
  | .lit _ => 1
  | .nil => 1
  | .ptr d => uptoBulk d + 1
  | .slice elems spare => uptoBulkAll elems + uptoBulkAll spare + 1
  | .agg parts => uptoBulkAll parts + 1
  | .iface _ d => uptoBulk d + 1
  | .map entries => uptoBulkEntries entries + 1
  | .held _ => 1
def uptoBulkAll {H : Type} : List (DataW H) → Nat
  | [] => 0
  | d :: r => uptoBulk d + uptoBulkAll r
def uptoBulkEntries {H : Type} : List (Lit × DataW H) → Nat
  | [] => 0
  | x :: r => uptoBulkEntry x + uptoBulkEntries r
def uptoBulkEntry {H : Type} : Lit × DataW H → Nat
  | (.string bytes, d) => bytes.length + uptoBulk d + 1
  | (_, d) => uptoBulk d + 1
 end
def uptoSmall : (H : Type) → List (DataW H) → Bool := fun _ ds => decide (uptoBulkAll ds ≤ 1048576)
def OpenSpec.upto (s : _root_.Go.ChangeSpec) : _root_.Go.OpenSpec := { _root_.Go.OpenSpec.ofChange s with cond := some uptoSmall }

/-- 'laws.FnExactAreParts', WHERE WHAT IT READS IS OF BULK AT MOST 1048576: true; the input reads as it did. -/
def fnExactArePartsUptoRow : OpenClaim := { program := "ytlphegjhkchglaa", sum := "418a20acabe210b4c4b3bcb8a45700f607e3f98a595c3405f122a9c25263014e", func := "loop.example/g00935/laws.FnExactAreParts", spec := "fnExactAreParts", apart := false, narrowed := true }
def FnExactArePartsUptoSaid : Prop := fnExactArePartsUptoRow.holds Try.pinned (OpenSpec.upto fnExactArePartsSpec)

/-- 'laws.FnExactDearestPart', WHERE WHAT IT READS IS OF BULK AT MOST 1048576: true; the input reads as it did. -/
def fnExactDearestPartUptoRow : OpenClaim := { program := "ytlphegjhkchglaa", sum := "418a20acabe210b4c4b3bcb8a45700f607e3f98a595c3405f122a9c25263014e", func := "loop.example/g00935/laws.FnExactDearestPart", spec := "fnExactDearestPart", apart := false, narrowed := true }
def FnExactDearestPartUptoSaid : Prop := fnExactDearestPartUptoRow.holds Try.pinned (OpenSpec.upto fnExactDearestPartSpec)

/-- 'laws.FnExactCostOfAll', WHERE WHAT IT READS IS OF BULK AT MOST 1048576: true; the input reads as it did. -/
def fnExactCostOfAllUptoRow : OpenClaim := { program := "ytlphegjhkchglaa", sum := "418a20acabe210b4c4b3bcb8a45700f607e3f98a595c3405f122a9c25263014e", func := "loop.example/g00935/laws.FnExactCostOfAll", spec := "fnExactCostOfAll", apart := false, narrowed := true }
def FnExactCostOfAllUptoSaid : Prop := fnExactCostOfAllUptoRow.holds Try.pinned (OpenSpec.upto fnExactCostOfAllSpec)

/-- 'laws.FnExactToOrder', WHERE WHAT IT READS IS OF BULK AT MOST 1048576: true; the input reads as it did. -/
def fnExactToOrderUptoRow : OpenClaim := { program := "ytlphegjhkchglaa", sum := "418a20acabe210b4c4b3bcb8a45700f607e3f98a595c3405f122a9c25263014e", func := "loop.example/g00935/laws.FnExactToOrder", spec := "fnExactToOrder", apart := false, narrowed := true }
def FnExactToOrderUptoSaid : Prop := fnExactToOrderUptoRow.holds Try.pinned (OpenSpec.upto fnExactToOrderSpec)

/-- 'laws.FnExactAreUses', WHERE WHAT IT READS IS OF BULK AT MOST 1048576: true; the input reads as it did. -/
def fnExactAreUsesUptoRow : OpenClaim := { program := "ytlphegjhkchglaa", sum := "418a20acabe210b4c4b3bcb8a45700f607e3f98a595c3405f122a9c25263014e", func := "loop.example/g00935/laws.FnExactAreUses", spec := "fnExactAreUses", unfollowed := true, recurses := true, apart := false, narrowed := true }
def FnExactAreUsesUptoSaid : Prop := fnExactAreUsesUptoRow.holds Try.pinned (OpenSpec.upto fnExactAreUsesSpec)

/-- 'laws.FnExactAddStock', WHERE WHAT IT READS IS OF BULK AT MOST 1048576: true; the input reads as it did. -/
def fnExactAddStockUptoRow : OpenClaim := { program := "ytlphegjhkchglaa", sum := "418a20acabe210b4c4b3bcb8a45700f607e3f98a595c3405f122a9c25263014e", func := "loop.example/g00935/laws.FnExactAddStock", spec := "fnExactAddStock", unfollowed := true, recurses := true, apart := false, narrowed := true }
def FnExactAddStockUptoSaid : Prop := fnExactAddStockUptoRow.holds Try.pinned (OpenSpec.upto fnExactAddStockSpec)

/-- 'laws.FnExactOrderBy', WHERE WHAT IT READS IS OF BULK AT MOST 1048576: true; the input reads as it did. -/
def fnExactOrderByUptoRow : OpenClaim := { program := "ytlphegjhkchglaa", sum := "418a20acabe210b4c4b3bcb8a45700f607e3f98a595c3405f122a9c25263014e", func := "loop.example/g00935/laws.FnExactOrderBy", spec := "fnExactOrderBy", unfollowed := true, recurses := true, apart := false, narrowed := true }
def FnExactOrderByUptoSaid : Prop := fnExactOrderByUptoRow.holds Try.pinned (OpenSpec.upto fnExactOrderBySpec)

/-- 'laws.FnExactMissedUses', WHERE WHAT IT READS IS OF BULK AT MOST 1048576: true; the input reads as it did. -/
def fnExactMissedUsesUptoRow : OpenClaim := { program := "ytlphegjhkchglaa", sum := "418a20acabe210b4c4b3bcb8a45700f607e3f98a595c3405f122a9c25263014e", func := "loop.example/g00935/laws.FnExactMissedUses", spec := "fnExactMissedUses", unfollowed := true, recurses := true, apart := false, narrowed := true }
def FnExactMissedUsesUptoSaid : Prop := fnExactMissedUsesUptoRow.holds Try.pinned (OpenSpec.upto fnExactMissedUsesSpec)

/-- 'laws.FnExactStockAfter', WHERE WHAT IT READS IS OF BULK AT MOST 1048576: true; the input reads as it did. -/
def fnExactStockAfterUptoRow : OpenClaim := { program := "ytlphegjhkchglaa", sum := "418a20acabe210b4c4b3bcb8a45700f607e3f98a595c3405f122a9c25263014e", func := "loop.example/g00935/laws.FnExactStockAfter", spec := "fnExactStockAfter", unfollowed := true, recurses := true, apart := false, narrowed := true }
def FnExactStockAfterUptoSaid : Prop := fnExactStockAfterUptoRow.holds Try.pinned (OpenSpec.upto fnExactStockAfterSpec)

/-- 'laws.FnParts', WHERE WHAT IT READS IS OF BULK AT MOST 1048576: true; the input reads as it did. -/
def fnPartsUptoRow : OpenClaim := { program := "ytlphegjhkchglaa", sum := "418a20acabe210b4c4b3bcb8a45700f607e3f98a595c3405f122a9c25263014e", func := "loop.example/g00935/laws.FnParts", spec := "fnParts", unfollowed := true, recurses := true, apart := false, narrowed := true }
def FnPartsUptoSaid : Prop := fnPartsUptoRow.holds Try.pinned (OpenSpec.upto fnPartsSpec)

end Rows
end Go.Proofs.Ytlphegjhkchglaa
