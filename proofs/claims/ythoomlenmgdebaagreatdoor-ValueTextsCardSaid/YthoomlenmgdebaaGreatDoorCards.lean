/-
  DERIVED. GIVEN WITH THE SEED: THE CARDS: each row of YthoomlenmgdebaaGreatDoorRows.lean that lists a variable, with what it lists TIED to the program's text (the seventh form; the later family's looks); each row that meets fmt, with fmt's text TOLD by the authors' own Lean function (tested against real Go, not proved from fmt's source: count such statements apart). THE CARD IS WHAT COUNTS. Prove the row's statement (the work); the ties are given (YthoomlenmgdebaaGreatDoorTie.lean); close each card by the builder's one call (the guide's Derived/Test/ToyasCard.lean, 'card_holds'). Laid BY PROGRAM, IN A SANDBOX (cutbox-door.mjs). By AI agents, Wed Nov 11 2026. No macro, syntax, notation, axiom, sorry.
-/
import Derived.Test.YthoomlenmgdebaaGreatDoorRows
import GoSem.ClaimSeven
namespace Go.Proofs.YthoomlenmgdebaaGreatDoor
namespace Rows

/-- THE TIED CARD OF 'ectypelaw02.ValueMaps'. -/
def valueMapsCard : Claim7 := { stood := { row := valueMapsRow, standIns := [], harness := (true, "1e4c6b56cb2c6867a9df23e883da558814505b6edc09975099c62a8c7d5b9169"), looks := true }, kinds := [], alts := [], laidByText := true, laidKinds := [.data, .data, .data, .data, .sentinel, .sentinel, .data, .pinned], laidTests := true, laidLooks := .later }
def ValueMapsCardSaid : Prop := Claim7.holds Tryz.pinned (.plain (OpenSpec.ofChange valueMapsSpec)) valueMapsCard

/-- THE TIED CARD OF 'ectypelaw02.ValueTexts'. -/
def valueTextsCard : Claim7 := { stood := { row := valueTextsRow, standIns := [], harness := (true, "1e4c6b56cb2c6867a9df23e883da558814505b6edc09975099c62a8c7d5b9169"), looks := true }, kinds := [], alts := [], laidByText := true, laidKinds := [.data, .data, .data, .data, .sentinel, .sentinel, .data, .pinned], laidTests := true, laidLooks := .later }
def ValueTextsCardSaid : Prop := Claim7.holds Tryz.pinned (.plain (OpenSpec.ofChange valueTextsSpec)) valueTextsCard

/-- THE TIED CARD OF 'ectypelaw02.ValueForms'. -/
def valueFormsCard : Claim7 := { stood := { row := valueFormsRow, standIns := [], harness := (true, "1e4c6b56cb2c6867a9df23e883da558814505b6edc09975099c62a8c7d5b9169"), looks := true }, kinds := [], alts := [], laidByText := true, laidKinds := [.data, .data, .data, .data, .sentinel, .sentinel, .data, .pinned], laidTests := true, laidLooks := .later }
def ValueFormsCardSaid : Prop := Claim7.holds Tryz.pinned (.plain (OpenSpec.ofChange valueFormsSpec)) valueFormsCard

/-- THE TIED CARD OF 'ectypelaw02.ValueNormal'. -/
def valueNormalCard : Claim7 := { stood := { row := valueNormalRow, standIns := [], harness := (true, "1e4c6b56cb2c6867a9df23e883da558814505b6edc09975099c62a8c7d5b9169"), looks := true }, kinds := [], alts := [], laidByText := true, laidKinds := [.data, .data, .data, .data, .sentinel, .sentinel, .data, .pinned], laidTests := true, laidLooks := .later }
def ValueNormalCardSaid : Prop := Claim7.holds Tryz.pinned (.plain (OpenSpec.ofChange valueNormalSpec)) valueNormalCard

/-- THE TIED CARD OF 'ectypelaw02.ValueLaws'. -/
def valueLawsCard : Claim7 := { stood := { row := valueLawsRow, standIns := [], harness := (true, "1e4c6b56cb2c6867a9df23e883da558814505b6edc09975099c62a8c7d5b9169"), looks := true }, kinds := [], alts := [], laidByText := true, laidKinds := [.data, .data, .data, .data, .sentinel, .sentinel, .data, .pinned], laidTests := true, laidLooks := .later }
def ValueLawsCardSaid : Prop := Claim7.holds Tryz.pinned (.plain (OpenSpec.ofChange valueLawsSpec)) valueLawsCard

/-- THE SECOND FORM's CARD OF 'ectypelaw02.ValueMaps'. -/
def valueMapsUptoCard : Claim7 := { stood := { row := valueMapsUptoRow, standIns := [], harness := (true, "1e4c6b56cb2c6867a9df23e883da558814505b6edc09975099c62a8c7d5b9169"), looks := true }, kinds := [], alts := [], laidByText := true, laidKinds := [.data, .data, .data, .data, .sentinel, .sentinel, .data, .pinned], laidTests := true, laidLooks := .later }
def ValueMapsUptoCardSaid : Prop := Claim7.holds Tryz.pinned (.plain (OpenSpec.upto valueMapsSpec)) valueMapsUptoCard

/-- THE SECOND FORM's CARD OF 'ectypelaw02.ValueTexts'. -/
def valueTextsUptoCard : Claim7 := { stood := { row := valueTextsUptoRow, standIns := [], harness := (true, "1e4c6b56cb2c6867a9df23e883da558814505b6edc09975099c62a8c7d5b9169"), looks := true }, kinds := [], alts := [], laidByText := true, laidKinds := [.data, .data, .data, .data, .sentinel, .sentinel, .data, .pinned], laidTests := true, laidLooks := .later }
def ValueTextsUptoCardSaid : Prop := Claim7.holds Tryz.pinned (.plain (OpenSpec.upto valueTextsSpec)) valueTextsUptoCard

/-- THE SECOND FORM's CARD OF 'ectypelaw02.ValueForms'. -/
def valueFormsUptoCard : Claim7 := { stood := { row := valueFormsUptoRow, standIns := [], harness := (true, "1e4c6b56cb2c6867a9df23e883da558814505b6edc09975099c62a8c7d5b9169"), looks := true }, kinds := [], alts := [], laidByText := true, laidKinds := [.data, .data, .data, .data, .sentinel, .sentinel, .data, .pinned], laidTests := true, laidLooks := .later }
def ValueFormsUptoCardSaid : Prop := Claim7.holds Tryz.pinned (.plain (OpenSpec.upto valueFormsSpec)) valueFormsUptoCard

/-- THE SECOND FORM's CARD OF 'ectypelaw02.ValueNormal'. -/
def valueNormalUptoCard : Claim7 := { stood := { row := valueNormalUptoRow, standIns := [], harness := (true, "1e4c6b56cb2c6867a9df23e883da558814505b6edc09975099c62a8c7d5b9169"), looks := true }, kinds := [], alts := [], laidByText := true, laidKinds := [.data, .data, .data, .data, .sentinel, .sentinel, .data, .pinned], laidTests := true, laidLooks := .later }
def ValueNormalUptoCardSaid : Prop := Claim7.holds Tryz.pinned (.plain (OpenSpec.upto valueNormalSpec)) valueNormalUptoCard

/-- THE SECOND FORM's CARD OF 'ectypelaw02.ValueLaws'. -/
def valueLawsUptoCard : Claim7 := { stood := { row := valueLawsUptoRow, standIns := [], harness := (true, "1e4c6b56cb2c6867a9df23e883da558814505b6edc09975099c62a8c7d5b9169"), looks := true }, kinds := [], alts := [], laidByText := true, laidKinds := [.data, .data, .data, .data, .sentinel, .sentinel, .data, .pinned], laidTests := true, laidLooks := .later }
def ValueLawsUptoCardSaid : Prop := Claim7.holds Tryz.pinned (.plain (OpenSpec.upto valueLawsSpec)) valueLawsUptoCard
end Rows
end Go.Proofs.YthoomlenmgdebaaGreatDoor
