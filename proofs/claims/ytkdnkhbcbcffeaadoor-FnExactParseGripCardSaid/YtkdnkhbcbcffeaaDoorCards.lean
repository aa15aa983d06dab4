/-
  DERIVED. GIVEN WITH THE SEED: THE CARDS: each row of YtkdnkhbcbcffeaaDoorRows.lean that lists a variable, with what it lists TIED to the program's text (the seventh form; the later family's looks); each row that meets fmt, with fmt's text TOLD by the authors' own Lean function (tested against real Go, not proved from fmt's source: count such statements apart). THE CARD IS WHAT COUNTS. Prove the row's statement (the work); the ties are given (YtkdnkhbcbcffeaaDoorTie.lean); close each card by the builder's one call (the guide's Derived/Test/ToyasCard.lean, 'card_holds'). Laid BY PROGRAM, IN A SANDBOX (cutbox-door.mjs). By AI agents, Wed Nov 11 2026. No macro, syntax, notation, axiom, sorry.
-/
import Derived.Test.YtkdnkhbcbcffeaaDoorRows
import GoSem.ClaimSeven
namespace Go.Proofs.YtkdnkhbcbcffeaaDoor
namespace Rows

/-- THE TIED CARD OF 'laws.FnExactGripText'. -/
def fnExactGripTextCard : Claim7 := { stood := { row := fnExactGripTextRow, standIns := [], harness := (true, "c417b46066d69698b52bbf888173677474d195195ae02ea62f4a53a57ab7d1b0"), looks := true }, kinds := [], alts := [], laidByText := true, laidKinds := [.data, .data, .data, .widerDeep, .widerDeep], laidTests := true, laidLooks := .later }
def FnExactGripTextCardSaid : Prop := Claim7.holds Tryd.pinned (.plain (OpenSpec.ofChange fnExactGripTextSpec)) fnExactGripTextCard

/-- THE TIED CARD OF 'laws.FnExactParseGrip'. -/
def fnExactParseGripCard : Claim7 := { stood := { row := fnExactParseGripRow, standIns := [], harness := (true, "c417b46066d69698b52bbf888173677474d195195ae02ea62f4a53a57ab7d1b0"), looks := true }, kinds := [], alts := [], laidByText := true, laidKinds := [.data, .data, .data, .sentinel, .sentinel, .widerDeep, .widerDeep], laidTests := true, laidLooks := .later }
def FnExactParseGripCardSaid : Prop := Claim7.holds Tryd.pinned (.plain (OpenSpec.ofChange fnExactParseGripSpec)) fnExactParseGripCard

/-- THE SECOND FORM's CARD OF 'laws.FnExactGripText'. -/
def fnExactGripTextUptoCard : Claim7 := { stood := { row := fnExactGripTextUptoRow, standIns := [], harness := (true, "c417b46066d69698b52bbf888173677474d195195ae02ea62f4a53a57ab7d1b0"), looks := true }, kinds := [], alts := [], laidByText := true, laidKinds := [.data, .data, .data, .widerDeep, .widerDeep], laidTests := true, laidLooks := .later }
def FnExactGripTextUptoCardSaid : Prop := Claim7.holds Tryd.pinned (.plain (OpenSpec.upto fnExactGripTextSpec)) fnExactGripTextUptoCard

/-- THE SECOND FORM's CARD OF 'laws.FnExactParseGrip'. -/
def fnExactParseGripUptoCard : Claim7 := { stood := { row := fnExactParseGripUptoRow, standIns := [], harness := (true, "c417b46066d69698b52bbf888173677474d195195ae02ea62f4a53a57ab7d1b0"), looks := true }, kinds := [], alts := [], laidByText := true, laidKinds := [.data, .data, .data, .sentinel, .sentinel, .widerDeep, .widerDeep], laidTests := true, laidLooks := .later }
def FnExactParseGripUptoCardSaid : Prop := Claim7.holds Tryd.pinned (.plain (OpenSpec.upto fnExactParseGripSpec)) fnExactParseGripUptoCard
end Rows
end Go.Proofs.YtkdnkhbcbcffeaaDoor
