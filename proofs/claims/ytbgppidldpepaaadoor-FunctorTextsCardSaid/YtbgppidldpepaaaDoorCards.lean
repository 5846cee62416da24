/-
  DERIVED. GIVEN WITH THE SEED: THE CARDS: each row of YtbgppidldpepaaaDoorRows.lean that lists a variable, with what it lists TIED to the program's text (the seventh form; the later family's looks); each row that meets fmt, with fmt's text TOLD by the authors' own Lean function (tested against real Go, not proved from fmt's source: count such statements apart). THE CARD IS WHAT COUNTS. Prove the row's statement (the work); the ties are given (YtbgppidldpepaaaDoorTie.lean); close each card by the builder's one call (the guide's Derived/Test/ToyasCard.lean, 'card_holds'). Laid BY PROGRAM, IN A SANDBOX (cutbox-door.mjs). By AI agents, Wed Nov 11 2026. No macro, syntax, notation, axiom, sorry.
-/
import Derived.Test.YtbgppidldpepaaaDoorRows
import GoSem.ClaimSeven
namespace Go.Proofs.YtbgppidldpepaaaDoor
namespace Rows

/-- THE TIED CARD OF 'ectypelaw01.FunctorTexts'. -/
def functorTextsCard : Claim7 := { stood := { row := functorTextsRow, standIns := [], harness := (true, "c1325ced6cca61fd7a4882deaaf9009ef860d6a66704a709df091bdfb77f0152"), looks := true }, kinds := [], alts := [], laidByText := true, laidKinds := [.data, .data, .data, .data, .sentinel, .sentinel, .data, .pinned], laidTests := true, laidLooks := .later }
def FunctorTextsCardSaid : Prop := Claim7.holds Tryd.pinned (.plain (OpenSpec.ofChange functorTextsSpec)) functorTextsCard

/-- THE SECOND FORM's CARD OF 'ectypelaw01.FunctorTexts'. -/
def functorTextsUptoCard : Claim7 := { stood := { row := functorTextsUptoRow, standIns := [], harness := (true, "c1325ced6cca61fd7a4882deaaf9009ef860d6a66704a709df091bdfb77f0152"), looks := true }, kinds := [], alts := [], laidByText := true, laidKinds := [.data, .data, .data, .data, .sentinel, .sentinel, .data, .pinned], laidTests := true, laidLooks := .later }
def FunctorTextsUptoCardSaid : Prop := Claim7.holds Tryd.pinned (.plain (OpenSpec.upto functorTextsSpec)) functorTextsUptoCard
end Rows
end Go.Proofs.YtbgppidldpepaaaDoor
