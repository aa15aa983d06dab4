/-
  DERIVED. GIVEN WITH THE SEED: THE CARDS: each row of YtlphegjhkchglaaDoorRows.lean that lists a variable, with what it lists TIED to the program's text (the seventh form; the later family's looks); each row that meets fmt, with fmt's text TOLD by the authors' own Lean function (tested against real Go, not proved from fmt's source: count such statements apart). THE CARD IS WHAT COUNTS. Prove the row's statement (the work); the ties are given (YtlphegjhkchglaaDoorTie.lean); close each card by the builder's one call (the guide's Derived/Test/ToyasCard.lean, 'card_holds'). Laid BY PROGRAM, IN A SANDBOX (cutbox-door.mjs). By AI agents, Wed Nov 11 2026. No macro, syntax, notation, axiom, sorry.
-/
import Derived.Test.YtlphegjhkchglaaDoorRows
import GoSem.ClaimSeven
namespace Go.Proofs.YtlphegjhkchglaaDoor
namespace Rows

/-- THE TIED CARD OF 'laws.FnExactPartsLine'. -/
def fnExactPartsLineCard : Claim7 := { stood := { row := fnExactPartsLineRow, standIns := [], harness := (true, "10ee20c02e20d8ea85be9d16b5f3504f138d12c674ed03e17b32eadd9bf1ebe5"), looks := false }, kinds := [], alts := [], laidByText := true, laidKinds := [.data, .data, .data], laidTests := true, laidLooks := .later }
def FnExactPartsLineCardSaid : Prop := Claim7.holds Tryd.pinned (.plain (OpenSpec.ofChange fnExactPartsLineSpec)) fnExactPartsLineCard

/-- THE TIED CARD OF 'laws.FnStock'. -/
def fnStockCard : Claim7 := { stood := { row := fnStockRow, standIns := [], harness := (true, "10ee20c02e20d8ea85be9d16b5f3504f138d12c674ed03e17b32eadd9bf1ebe5"), looks := false }, kinds := [], alts := [], laidByText := true, laidKinds := [.data, .data, .data], laidTests := true, laidLooks := .later }
def FnStockCardSaid : Prop := Claim7.holds Tryd.pinned (.plain (OpenSpec.ofChange fnStockSpec)) fnStockCard

/-- THE SECOND FORM's CARD OF 'laws.FnExactPartsLine'. -/
def fnExactPartsLineUptoCard : Claim7 := { stood := { row := fnExactPartsLineUptoRow, standIns := [], harness := (true, "10ee20c02e20d8ea85be9d16b5f3504f138d12c674ed03e17b32eadd9bf1ebe5"), looks := false }, kinds := [], alts := [], laidByText := true, laidKinds := [.data, .data, .data], laidTests := true, laidLooks := .later }
def FnExactPartsLineUptoCardSaid : Prop := Claim7.holds Tryd.pinned (.plain (OpenSpec.upto fnExactPartsLineSpec)) fnExactPartsLineUptoCard

/-- THE SECOND FORM's CARD OF 'laws.FnStock'. -/
def fnStockUptoCard : Claim7 := { stood := { row := fnStockUptoRow, standIns := [], harness := (true, "10ee20c02e20d8ea85be9d16b5f3504f138d12c674ed03e17b32eadd9bf1ebe5"), looks := false }, kinds := [], alts := [], laidByText := true, laidKinds := [.data, .data, .data], laidTests := true, laidLooks := .later }
def FnStockUptoCardSaid : Prop := Claim7.holds Tryd.pinned (.plain (OpenSpec.upto fnStockSpec)) fnStockUptoCard
end Rows
end Go.Proofs.YtlphegjhkchglaaDoor
