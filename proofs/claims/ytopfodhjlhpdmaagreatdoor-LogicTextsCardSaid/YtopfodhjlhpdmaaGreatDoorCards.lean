/-
  DERIVED. GIVEN WITH THE SEED: THE CARDS: each row of YtopfodhjlhpdmaaGreatDoorRows.lean that lists a variable, with what it lists TIED to the program's text (the seventh form; the later family's looks); each row that meets fmt, with fmt's text TOLD by the authors' own Lean function (tested against real Go, not proved from fmt's source: count such statements apart). THE CARD IS WHAT COUNTS. Prove the row's statement (the work); the ties are given (YtopfodhjlhpdmaaGreatDoorTie.lean); close each card by the builder's one call (the guide's Derived/Test/ToyasCard.lean, 'card_holds'). Laid BY PROGRAM, IN A SANDBOX (cutbox-door.mjs). By AI agents, Wed Nov 11 2026. No macro, syntax, notation, axiom, sorry.
-/
import Derived.Test.YtopfodhjlhpdmaaGreatDoorRows
import GoSem.ClaimSeven
namespace Go.Proofs.YtopfodhjlhpdmaaGreatDoor
namespace Rows

/-- THE TIED CARD OF 'ectypelaw07.LogicTexts'. -/
def logicTextsCard : Claim7 := { stood := { row := logicTextsRow, standIns := [], harness := (true, "349f599f2653259ee691a80dc6316517cf16022bd8f25b19cea14736449477c5"), looks := true }, kinds := [], alts := [], laidByText := true, laidKinds := [.data, .data, .data, .data, .sentinel, .sentinel, .data, .widerDeep, .pinned], laidTests := true, laidLooks := .later }
def LogicTextsCardSaid : Prop := Claim7.holds Tryz.pinned (.plain (OpenSpec.ofChange logicTextsSpec)) logicTextsCard

/-- THE TIED CARD OF 'ectypelaw07.LogicTrue'. -/
def logicTrueCard : Claim7 := { stood := { row := logicTrueRow, standIns := [], harness := (true, "349f599f2653259ee691a80dc6316517cf16022bd8f25b19cea14736449477c5"), looks := true }, kinds := [], alts := [], laidByText := true, laidKinds := [.data, .data, .data, .data, .sentinel, .sentinel, .data, .widerDeep, .pinned], laidTests := true, laidLooks := .later }
def LogicTrueCardSaid : Prop := Claim7.holds Tryz.pinned (.plain (OpenSpec.ofChange logicTrueSpec)) logicTrueCard

/-- THE TIED CARD OF 'ectypelaw07.LogicForms'. -/
def logicFormsCard : Claim7 := { stood := { row := logicFormsRow, standIns := [], harness := (true, "349f599f2653259ee691a80dc6316517cf16022bd8f25b19cea14736449477c5"), looks := true }, kinds := [], alts := [], laidByText := true, laidKinds := [.data, .data, .data, .data, .sentinel, .sentinel, .data, .widerDeep, .pinned], laidTests := true, laidLooks := .later }
def LogicFormsCardSaid : Prop := Claim7.holds Tryz.pinned (.plain (OpenSpec.ofChange logicFormsSpec)) logicFormsCard

/-- THE TIED CARD OF 'ectypelaw07.LogicMaps'. -/
def logicMapsCard : Claim7 := { stood := { row := logicMapsRow, standIns := [], harness := (true, "349f599f2653259ee691a80dc6316517cf16022bd8f25b19cea14736449477c5"), looks := true }, kinds := [], alts := [], laidByText := true, laidKinds := [.data, .data, .data, .data, .sentinel, .sentinel, .data, .widerDeep, .pinned], laidTests := true, laidLooks := .later }
def LogicMapsCardSaid : Prop := Claim7.holds Tryz.pinned (.plain (OpenSpec.ofChange logicMapsSpec)) logicMapsCard

/-- THE SECOND FORM's CARD OF 'ectypelaw07.LogicTexts'. -/
def logicTextsUptoCard : Claim7 := { stood := { row := logicTextsUptoRow, standIns := [], harness := (true, "349f599f2653259ee691a80dc6316517cf16022bd8f25b19cea14736449477c5"), looks := true }, kinds := [], alts := [], laidByText := true, laidKinds := [.data, .data, .data, .data, .sentinel, .sentinel, .data, .widerDeep, .pinned], laidTests := true, laidLooks := .later }
def LogicTextsUptoCardSaid : Prop := Claim7.holds Tryz.pinned (.plain (OpenSpec.upto logicTextsSpec)) logicTextsUptoCard

/-- THE SECOND FORM's CARD OF 'ectypelaw07.LogicTrue'. -/
def logicTrueUptoCard : Claim7 := { stood := { row := logicTrueUptoRow, standIns := [], harness := (true, "349f599f2653259ee691a80dc6316517cf16022bd8f25b19cea14736449477c5"), looks := true }, kinds := [], alts := [], laidByText := true, laidKinds := [.data, .data, .data, .data, .sentinel, .sentinel, .data, .widerDeep, .pinned], laidTests := true, laidLooks := .later }
def LogicTrueUptoCardSaid : Prop := Claim7.holds Tryz.pinned (.plain (OpenSpec.upto logicTrueSpec)) logicTrueUptoCard

/-- THE SECOND FORM's CARD OF 'ectypelaw07.LogicForms'. -/
def logicFormsUptoCard : Claim7 := { stood := { row := logicFormsUptoRow, standIns := [], harness := (true, "349f599f2653259ee691a80dc6316517cf16022bd8f25b19cea14736449477c5"), looks := true }, kinds := [], alts := [], laidByText := true, laidKinds := [.data, .data, .data, .data, .sentinel, .sentinel, .data, .widerDeep, .pinned], laidTests := true, laidLooks := .later }
def LogicFormsUptoCardSaid : Prop := Claim7.holds Tryz.pinned (.plain (OpenSpec.upto logicFormsSpec)) logicFormsUptoCard

/-- THE SECOND FORM's CARD OF 'ectypelaw07.LogicMaps'. -/
def logicMapsUptoCard : Claim7 := { stood := { row := logicMapsUptoRow, standIns := [], harness := (true, "349f599f2653259ee691a80dc6316517cf16022bd8f25b19cea14736449477c5"), looks := true }, kinds := [], alts := [], laidByText := true, laidKinds := [.data, .data, .data, .data, .sentinel, .sentinel, .data, .widerDeep, .pinned], laidTests := true, laidLooks := .later }
def LogicMapsUptoCardSaid : Prop := Claim7.holds Tryz.pinned (.plain (OpenSpec.upto logicMapsSpec)) logicMapsUptoCard
end Rows
end Go.Proofs.YtopfodhjlhpdmaaGreatDoor
