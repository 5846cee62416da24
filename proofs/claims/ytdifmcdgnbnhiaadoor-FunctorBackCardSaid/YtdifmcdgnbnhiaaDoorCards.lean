/-
  DERIVED. GIVEN WITH THE SEED: THE CARDS: each row of YtdifmcdgnbnhiaaDoorRows.lean that lists a variable, with what it lists TIED to the program's text (the seventh form; the later family's looks); each row that meets fmt, with fmt's text TOLD by the authors' own Lean function (tested against real Go, not proved from fmt's source: count such statements apart). THE CARD IS WHAT COUNTS. Prove the row's statement (the work); the ties are given (YtdifmcdgnbnhiaaDoorTie.lean); close each card by the builder's one call (the guide's Derived/Test/ToyasCard.lean, 'card_holds'). Laid BY PROGRAM, IN A SANDBOX (cutbox-door.mjs). By AI agents, Wed Nov 11 2026. No macro, syntax, notation, axiom, sorry.
-/
import Derived.Test.YtdifmcdgnbnhiaaDoorRows
import GoSem.ClaimSeven
namespace Go.Proofs.YtdifmcdgnbnhiaaDoor
namespace Rows

/-- THE TIED CARD OF 'ectypelaw01.FunctorTexts'. -/
def functorTextsCard : Claim7 := { stood := { row := functorTextsRow, standIns := [], harness := (true, "7c63f21f9e30051652e9d0a13a429516f323e3df397ec84c8bba97d92f260054"), looks := true }, kinds := [], alts := [], laidByText := true, laidKinds := [.data, .data, .data, .data, .sentinel, .sentinel, .data, .pinned], laidTests := true, laidLooks := .later }
def FunctorTextsCardSaid : Prop := Claim7.holds Tryd.pinned (.plain (OpenSpec.ofChange functorTextsSpec)) functorTextsCard

/-- THE TIED CARD OF 'ectypelaw01.FunctorBack'. -/
def functorBackCard : Claim7 := { stood := { row := functorBackRow, standIns := [], harness := (true, "7c63f21f9e30051652e9d0a13a429516f323e3df397ec84c8bba97d92f260054"), looks := true }, kinds := [], alts := [], laidByText := true, laidKinds := [.data, .data, .data, .data, .sentinel, .sentinel, .data, .pinned], laidTests := true, laidLooks := .later }
def FunctorBackCardSaid : Prop := Claim7.holds Tryd.pinned (.plain (OpenSpec.ofChange functorBackSpec)) functorBackCard

/-- THE TIED CARD OF 'ectypelaw01.FunctorOwn'. -/
def functorOwnCard : Claim7 := { stood := { row := functorOwnRow, standIns := [], harness := (true, "7c63f21f9e30051652e9d0a13a429516f323e3df397ec84c8bba97d92f260054"), looks := true }, kinds := [], alts := [], laidByText := true, laidKinds := [.data, .data, .data, .data, .sentinel, .sentinel, .data, .pinned], laidTests := true, laidLooks := .later }
def FunctorOwnCardSaid : Prop := Claim7.holds Tryd.pinned (.plain (OpenSpec.ofChange functorOwnSpec)) functorOwnCard

/-- THE TIED CARD OF 'ectypelaw01.FunctorForms'. -/
def functorFormsCard : Claim7 := { stood := { row := functorFormsRow, standIns := [], harness := (true, "7c63f21f9e30051652e9d0a13a429516f323e3df397ec84c8bba97d92f260054"), looks := true }, kinds := [], alts := [], laidByText := true, laidKinds := [.data, .data, .data, .data, .sentinel, .sentinel, .data, .pinned], laidTests := true, laidLooks := .later }
def FunctorFormsCardSaid : Prop := Claim7.holds Tryd.pinned (.plain (OpenSpec.ofChange functorFormsSpec)) functorFormsCard

/-- THE SECOND FORM's CARD OF 'ectypelaw01.FunctorTexts'. -/
def functorTextsUptoCard : Claim7 := { stood := { row := functorTextsUptoRow, standIns := [], harness := (true, "7c63f21f9e30051652e9d0a13a429516f323e3df397ec84c8bba97d92f260054"), looks := true }, kinds := [], alts := [], laidByText := true, laidKinds := [.data, .data, .data, .data, .sentinel, .sentinel, .data, .pinned], laidTests := true, laidLooks := .later }
def FunctorTextsUptoCardSaid : Prop := Claim7.holds Tryd.pinned (.plain (OpenSpec.upto functorTextsSpec)) functorTextsUptoCard

/-- THE SECOND FORM's CARD OF 'ectypelaw01.FunctorBack'. -/
def functorBackUptoCard : Claim7 := { stood := { row := functorBackUptoRow, standIns := [], harness := (true, "7c63f21f9e30051652e9d0a13a429516f323e3df397ec84c8bba97d92f260054"), looks := true }, kinds := [], alts := [], laidByText := true, laidKinds := [.data, .data, .data, .data, .sentinel, .sentinel, .data, .pinned], laidTests := true, laidLooks := .later }
def FunctorBackUptoCardSaid : Prop := Claim7.holds Tryd.pinned (.plain (OpenSpec.upto functorBackSpec)) functorBackUptoCard

/-- THE SECOND FORM's CARD OF 'ectypelaw01.FunctorOwn'. -/
def functorOwnUptoCard : Claim7 := { stood := { row := functorOwnUptoRow, standIns := [], harness := (true, "7c63f21f9e30051652e9d0a13a429516f323e3df397ec84c8bba97d92f260054"), looks := true }, kinds := [], alts := [], laidByText := true, laidKinds := [.data, .data, .data, .data, .sentinel, .sentinel, .data, .pinned], laidTests := true, laidLooks := .later }
def FunctorOwnUptoCardSaid : Prop := Claim7.holds Tryd.pinned (.plain (OpenSpec.upto functorOwnSpec)) functorOwnUptoCard

/-- THE SECOND FORM's CARD OF 'ectypelaw01.FunctorForms'. -/
def functorFormsUptoCard : Claim7 := { stood := { row := functorFormsUptoRow, standIns := [], harness := (true, "7c63f21f9e30051652e9d0a13a429516f323e3df397ec84c8bba97d92f260054"), looks := true }, kinds := [], alts := [], laidByText := true, laidKinds := [.data, .data, .data, .data, .sentinel, .sentinel, .data, .pinned], laidTests := true, laidLooks := .later }
def FunctorFormsUptoCardSaid : Prop := Claim7.holds Tryd.pinned (.plain (OpenSpec.upto functorFormsSpec)) functorFormsUptoCard
end Rows
end Go.Proofs.YtdifmcdgnbnhiaaDoor
