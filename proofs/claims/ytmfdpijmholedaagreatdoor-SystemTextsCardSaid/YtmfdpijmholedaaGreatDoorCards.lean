/-
  DERIVED. GIVEN WITH THE SEED: THE CARDS: each row of YtmfdpijmholedaaGreatDoorRows.lean that lists a variable, with what it lists TIED to the program's text (the seventh form; the later family's looks); each row that meets fmt, with fmt's text TOLD by the authors' own Lean function (tested against real Go, not proved from fmt's source: count such statements apart). THE CARD IS WHAT COUNTS. Prove the row's statement (the work); the ties are given (YtmfdpijmholedaaGreatDoorTie.lean); close each card by the builder's one call (the guide's Derived/Test/ToyasCard.lean, 'card_holds'). Laid BY PROGRAM, IN A SANDBOX (cutbox-door.mjs). By AI agents, Wed Nov 11 2026. No macro, syntax, notation, axiom, sorry.
-/
import Derived.Test.YtmfdpijmholedaaGreatDoorRows
import GoSem.ClaimSeven
namespace Go.Proofs.YtmfdpijmholedaaGreatDoor
namespace Rows

/-- THE TIED CARD OF 'ectypelaw03.SystemMaps'. -/
def systemMapsCard : Claim7 := { stood := { row := systemMapsRow, standIns := [], harness := (true, "16bfc96b6015e7c1836e6e85ac56fb9af05c80819149fea3c30a26e5d3ab28d3"), looks := true }, kinds := [], alts := [], laidByText := true, laidKinds := [.data, .data, .data, .data, .sentinel, .sentinel, .data, .pinned], laidTests := true, laidLooks := .later }
def SystemMapsCardSaid : Prop := Claim7.holds Tryz.pinned (.plain (OpenSpec.ofChange systemMapsSpec)) systemMapsCard

/-- THE TIED CARD OF 'ectypelaw03.SystemTexts'. -/
def systemTextsCard : Claim7 := { stood := { row := systemTextsRow, standIns := [], harness := (true, "16bfc96b6015e7c1836e6e85ac56fb9af05c80819149fea3c30a26e5d3ab28d3"), looks := true }, kinds := [], alts := [], laidByText := true, laidKinds := [.data, .data, .data, .data, .sentinel, .sentinel, .data, .pinned], laidTests := true, laidLooks := .later }
def SystemTextsCardSaid : Prop := Claim7.holds Tryz.pinned (.plain (OpenSpec.ofChange systemTextsSpec)) systemTextsCard

/-- THE TIED CARD OF 'ectypelaw03.SystemForms'. -/
def systemFormsCard : Claim7 := { stood := { row := systemFormsRow, standIns := [], harness := (true, "16bfc96b6015e7c1836e6e85ac56fb9af05c80819149fea3c30a26e5d3ab28d3"), looks := true }, kinds := [], alts := [], laidByText := true, laidKinds := [.data, .data, .data, .data, .sentinel, .sentinel, .data, .pinned], laidTests := true, laidLooks := .later }
def SystemFormsCardSaid : Prop := Claim7.holds Tryz.pinned (.plain (OpenSpec.ofChange systemFormsSpec)) systemFormsCard

/-- THE TIED CARD OF 'ectypelaw03.SystemMakes'. -/
def systemMakesCard : Claim7 := { stood := { row := systemMakesRow, standIns := [], harness := (true, "16bfc96b6015e7c1836e6e85ac56fb9af05c80819149fea3c30a26e5d3ab28d3"), looks := true }, kinds := [], alts := [], laidByText := true, laidKinds := [.data, .data, .data, .data, .sentinel, .sentinel, .data, .pinned], laidTests := true, laidLooks := .later }
def SystemMakesCardSaid : Prop := Claim7.holds Tryz.pinned (.plain (OpenSpec.ofChange systemMakesSpec)) systemMakesCard

/-- THE TIED CARD OF 'ectypelaw03.SystemLaws'. -/
def systemLawsCard : Claim7 := { stood := { row := systemLawsRow, standIns := [], harness := (true, "16bfc96b6015e7c1836e6e85ac56fb9af05c80819149fea3c30a26e5d3ab28d3"), looks := true }, kinds := [], alts := [], laidByText := true, laidKinds := [.data, .data, .data, .data, .sentinel, .sentinel, .data, .pinned], laidTests := true, laidLooks := .later }
def SystemLawsCardSaid : Prop := Claim7.holds Tryz.pinned (.plain (OpenSpec.ofChange systemLawsSpec)) systemLawsCard

/-- THE TIED CARD OF 'ectypelaw03.SystemOwn'. -/
def systemOwnCard : Claim7 := { stood := { row := systemOwnRow, standIns := [], harness := (true, "16bfc96b6015e7c1836e6e85ac56fb9af05c80819149fea3c30a26e5d3ab28d3"), looks := true }, kinds := [], alts := [], laidByText := true, laidKinds := [.data, .data, .data, .data, .sentinel, .sentinel, .data, .pinned], laidTests := true, laidLooks := .later }
def SystemOwnCardSaid : Prop := Claim7.holds Tryz.pinned (.plain (OpenSpec.ofChange systemOwnSpec)) systemOwnCard

/-- THE SECOND FORM's CARD OF 'ectypelaw03.SystemMaps'. -/
def systemMapsUptoCard : Claim7 := { stood := { row := systemMapsUptoRow, standIns := [], harness := (true, "16bfc96b6015e7c1836e6e85ac56fb9af05c80819149fea3c30a26e5d3ab28d3"), looks := true }, kinds := [], alts := [], laidByText := true, laidKinds := [.data, .data, .data, .data, .sentinel, .sentinel, .data, .pinned], laidTests := true, laidLooks := .later }
def SystemMapsUptoCardSaid : Prop := Claim7.holds Tryz.pinned (.plain (OpenSpec.upto systemMapsSpec)) systemMapsUptoCard

/-- THE SECOND FORM's CARD OF 'ectypelaw03.SystemTexts'. -/
def systemTextsUptoCard : Claim7 := { stood := { row := systemTextsUptoRow, standIns := [], harness := (true, "16bfc96b6015e7c1836e6e85ac56fb9af05c80819149fea3c30a26e5d3ab28d3"), looks := true }, kinds := [], alts := [], laidByText := true, laidKinds := [.data, .data, .data, .data, .sentinel, .sentinel, .data, .pinned], laidTests := true, laidLooks := .later }
def SystemTextsUptoCardSaid : Prop := Claim7.holds Tryz.pinned (.plain (OpenSpec.upto systemTextsSpec)) systemTextsUptoCard

/-- THE SECOND FORM's CARD OF 'ectypelaw03.SystemForms'. -/
def systemFormsUptoCard : Claim7 := { stood := { row := systemFormsUptoRow, standIns := [], harness := (true, "16bfc96b6015e7c1836e6e85ac56fb9af05c80819149fea3c30a26e5d3ab28d3"), looks := true }, kinds := [], alts := [], laidByText := true, laidKinds := [.data, .data, .data, .data, .sentinel, .sentinel, .data, .pinned], laidTests := true, laidLooks := .later }
def SystemFormsUptoCardSaid : Prop := Claim7.holds Tryz.pinned (.plain (OpenSpec.upto systemFormsSpec)) systemFormsUptoCard

/-- THE SECOND FORM's CARD OF 'ectypelaw03.SystemMakes'. -/
def systemMakesUptoCard : Claim7 := { stood := { row := systemMakesUptoRow, standIns := [], harness := (true, "16bfc96b6015e7c1836e6e85ac56fb9af05c80819149fea3c30a26e5d3ab28d3"), looks := true }, kinds := [], alts := [], laidByText := true, laidKinds := [.data, .data, .data, .data, .sentinel, .sentinel, .data, .pinned], laidTests := true, laidLooks := .later }
def SystemMakesUptoCardSaid : Prop := Claim7.holds Tryz.pinned (.plain (OpenSpec.upto systemMakesSpec)) systemMakesUptoCard

/-- THE SECOND FORM's CARD OF 'ectypelaw03.SystemLaws'. -/
def systemLawsUptoCard : Claim7 := { stood := { row := systemLawsUptoRow, standIns := [], harness := (true, "16bfc96b6015e7c1836e6e85ac56fb9af05c80819149fea3c30a26e5d3ab28d3"), looks := true }, kinds := [], alts := [], laidByText := true, laidKinds := [.data, .data, .data, .data, .sentinel, .sentinel, .data, .pinned], laidTests := true, laidLooks := .later }
def SystemLawsUptoCardSaid : Prop := Claim7.holds Tryz.pinned (.plain (OpenSpec.upto systemLawsSpec)) systemLawsUptoCard

/-- THE SECOND FORM's CARD OF 'ectypelaw03.SystemOwn'. -/
def systemOwnUptoCard : Claim7 := { stood := { row := systemOwnUptoRow, standIns := [], harness := (true, "16bfc96b6015e7c1836e6e85ac56fb9af05c80819149fea3c30a26e5d3ab28d3"), looks := true }, kinds := [], alts := [], laidByText := true, laidKinds := [.data, .data, .data, .data, .sentinel, .sentinel, .data, .pinned], laidTests := true, laidLooks := .later }
def SystemOwnUptoCardSaid : Prop := Claim7.holds Tryz.pinned (.plain (OpenSpec.upto systemOwnSpec)) systemOwnUptoCard
end Rows
end Go.Proofs.YtmfdpijmholedaaGreatDoor
