/-
  DERIVED. GIVEN WITH THE SEED: THE CARDS: each row of YtbbpfakobaiglaaGreatDoorRows.lean that lists a variable, with what it lists TIED to the program's text (the seventh form; the later family's looks); each row that meets fmt, with fmt's text TOLD by the authors' own Lean function (tested against real Go, not proved from fmt's source: count such statements apart). THE CARD IS WHAT COUNTS. Prove the row's statement (the work); the ties are given (YtbbpfakobaiglaaGreatDoorTie.lean); close each card by the builder's one call (the guide's Derived/Test/ToyasCard.lean, 'card_holds'). Laid BY PROGRAM, IN A SANDBOX (cutbox-door.mjs). By AI agents, Wed Nov 11 2026. No macro, syntax, notation, axiom, sorry.
-/
import Derived.Test.YtbbpfakobaiglaaGreatDoorRows
import GoSem.ClaimSeven
namespace Go.Proofs.YtbbpfakobaiglaaGreatDoor
namespace Rows

/-- THE TIED CARD OF 'viaticumlaw17.PrintOne'. -/
def printOneCard : Claim7 := { stood := { row := printOneRow, standIns := [], harness := (true, "2f488128459de4c0f49fbc9cd6c80bc085ef87a62c945c05895b077fdecabd6e"), looks := true }, kinds := [], alts := [], laidByText := true, laidKinds := [.data, .data, .data, .data, .pinned], laidTests := true, laidLooks := .later }
def PrintOneCardSaid : Prop := Claim7.holds Tryz.pinned (.plain (OpenSpec.ofChange printOneSpec)) printOneCard

/-- THE TIED CARD OF 'viaticumlaw17.PrintParts'. -/
def printPartsCard : Claim7 := { stood := { row := printPartsRow, standIns := [], harness := (true, "2f488128459de4c0f49fbc9cd6c80bc085ef87a62c945c05895b077fdecabd6e"), looks := true }, kinds := [], alts := [], laidByText := true, laidKinds := [.data, .data, .data, .data, .pinned], laidTests := true, laidLooks := .later }
def PrintPartsCardSaid : Prop := Claim7.holds Tryz.pinned (.plain (OpenSpec.ofChange printPartsSpec)) printPartsCard

/-- THE TIED CARD OF 'viaticumlaw17.PrintTerms'. -/
def printTermsCard : Claim7 := { stood := { row := printTermsRow, standIns := [], harness := (true, "2f488128459de4c0f49fbc9cd6c80bc085ef87a62c945c05895b077fdecabd6e"), looks := true }, kinds := [], alts := [], laidByText := true, laidKinds := [.data, .data, .data, .data, .sentinel, .sentinel, .pinned], laidTests := true, laidLooks := .later }
def PrintTermsCardSaid : Prop := Claim7.holds Tryz.pinned (.plain (OpenSpec.ofChange printTermsSpec)) printTermsCard

/-- THE TIED CARD OF 'viaticumlaw17.PrintExprs'. -/
def printExprsCard : Claim7 := { stood := { row := printExprsRow, standIns := [], harness := (true, "2f488128459de4c0f49fbc9cd6c80bc085ef87a62c945c05895b077fdecabd6e"), looks := true }, kinds := [], alts := [], laidByText := true, laidKinds := [.data, .data, .data, .data, .sentinel, .sentinel, .pinned], laidTests := true, laidLooks := .later }
def PrintExprsCardSaid : Prop := Claim7.holds Tryz.pinned (.plain (OpenSpec.ofChange printExprsSpec)) printExprsCard

/-- THE TIED CARD OF 'viaticumlaw17.PrintBlocks'. -/
def printBlocksCard : Claim7 := { stood := { row := printBlocksRow, standIns := [], harness := (true, "2f488128459de4c0f49fbc9cd6c80bc085ef87a62c945c05895b077fdecabd6e"), looks := true }, kinds := [], alts := [], laidByText := true, laidKinds := [.data, .data, .data, .data, .sentinel, .sentinel, .pinned], laidTests := true, laidLooks := .later }
def PrintBlocksCardSaid : Prop := Claim7.holds Tryz.pinned (.plain (OpenSpec.ofChange printBlocksSpec)) printBlocksCard

/-- THE SECOND FORM's CARD OF 'viaticumlaw17.PrintOne'. -/
def printOneUptoCard : Claim7 := { stood := { row := printOneUptoRow, standIns := [], harness := (true, "2f488128459de4c0f49fbc9cd6c80bc085ef87a62c945c05895b077fdecabd6e"), looks := true }, kinds := [], alts := [], laidByText := true, laidKinds := [.data, .data, .data, .data, .pinned], laidTests := true, laidLooks := .later }
def PrintOneUptoCardSaid : Prop := Claim7.holds Tryz.pinned (.plain (OpenSpec.upto printOneSpec)) printOneUptoCard

/-- THE SECOND FORM's CARD OF 'viaticumlaw17.PrintParts'. -/
def printPartsUptoCard : Claim7 := { stood := { row := printPartsUptoRow, standIns := [], harness := (true, "2f488128459de4c0f49fbc9cd6c80bc085ef87a62c945c05895b077fdecabd6e"), looks := true }, kinds := [], alts := [], laidByText := true, laidKinds := [.data, .data, .data, .data, .pinned], laidTests := true, laidLooks := .later }
def PrintPartsUptoCardSaid : Prop := Claim7.holds Tryz.pinned (.plain (OpenSpec.upto printPartsSpec)) printPartsUptoCard

/-- THE SECOND FORM's CARD OF 'viaticumlaw17.PrintTerms'. -/
def printTermsUptoCard : Claim7 := { stood := { row := printTermsUptoRow, standIns := [], harness := (true, "2f488128459de4c0f49fbc9cd6c80bc085ef87a62c945c05895b077fdecabd6e"), looks := true }, kinds := [], alts := [], laidByText := true, laidKinds := [.data, .data, .data, .data, .sentinel, .sentinel, .pinned], laidTests := true, laidLooks := .later }
def PrintTermsUptoCardSaid : Prop := Claim7.holds Tryz.pinned (.plain (OpenSpec.upto printTermsSpec)) printTermsUptoCard

/-- THE SECOND FORM's CARD OF 'viaticumlaw17.PrintExprs'. -/
def printExprsUptoCard : Claim7 := { stood := { row := printExprsUptoRow, standIns := [], harness := (true, "2f488128459de4c0f49fbc9cd6c80bc085ef87a62c945c05895b077fdecabd6e"), looks := true }, kinds := [], alts := [], laidByText := true, laidKinds := [.data, .data, .data, .data, .sentinel, .sentinel, .pinned], laidTests := true, laidLooks := .later }
def PrintExprsUptoCardSaid : Prop := Claim7.holds Tryz.pinned (.plain (OpenSpec.upto printExprsSpec)) printExprsUptoCard

/-- THE SECOND FORM's CARD OF 'viaticumlaw17.PrintBlocks'. -/
def printBlocksUptoCard : Claim7 := { stood := { row := printBlocksUptoRow, standIns := [], harness := (true, "2f488128459de4c0f49fbc9cd6c80bc085ef87a62c945c05895b077fdecabd6e"), looks := true }, kinds := [], alts := [], laidByText := true, laidKinds := [.data, .data, .data, .data, .sentinel, .sentinel, .pinned], laidTests := true, laidLooks := .later }
def PrintBlocksUptoCardSaid : Prop := Claim7.holds Tryz.pinned (.plain (OpenSpec.upto printBlocksSpec)) printBlocksUptoCard
end Rows
end Go.Proofs.YtbbpfakobaiglaaGreatDoor
