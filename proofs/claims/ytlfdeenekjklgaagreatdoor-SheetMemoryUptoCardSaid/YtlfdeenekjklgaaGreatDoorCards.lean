/-
  DERIVED. GIVEN WITH THE SEED: THE CARDS: each row of YtlfdeenekjklgaaGreatDoorRows.lean that lists a variable, with what it lists TIED to the program's text (the seventh form; the later family's looks); each row that meets fmt, with fmt's text TOLD by the authors' own Lean function (tested against real Go, not proved from fmt's source: count such statements apart). THE CARD IS WHAT COUNTS. Prove the row's statement (the work); the ties are given (YtlfdeenekjklgaaGreatDoorTie.lean); close each card by the builder's one call (the guide's Derived/Test/ToyasCard.lean, 'card_holds'). Laid BY PROGRAM, IN A SANDBOX (cutbox-door.mjs). By AI agents, Wed Nov 11 2026. No macro, syntax, notation, axiom, sorry.
-/
import Derived.Test.YtlfdeenekjklgaaGreatDoorRows
import GoSem.ClaimSeven
namespace Go.Proofs.YtlfdeenekjklgaaGreatDoor
namespace Rows

/-- THE TIED CARD OF 'turnpikelaw15.SheetParses'. -/
def sheetParsesCard : Claim7 := { stood := { row := sheetParsesRow, standIns := [], harness := (true, "fe557470c061c3243ca5b705117e2f677b2d678bf5422beb4b5526ac34c75273"), looks := true }, kinds := [], alts := [], laidByText := true, laidKinds := [.data, .handle, .data, .pinned], laidTests := true, laidLooks := .later }
def SheetParsesCardSaid : Prop := Claim7.holds Tryz.pinned (.plain (OpenSpec.ofChange sheetParsesSpec)) sheetParsesCard

/-- THE TIED CARD OF 'turnpikelaw15.SheetInside'. -/
def sheetInsideCard : Claim7 := { stood := { row := sheetInsideRow, standIns := [], harness := (true, "fe557470c061c3243ca5b705117e2f677b2d678bf5422beb4b5526ac34c75273"), looks := true }, kinds := [], alts := [], laidByText := true, laidKinds := [.data, .handle, .data, .pinned], laidTests := true, laidLooks := .later }
def SheetInsideCardSaid : Prop := Claim7.holds Tryz.pinned (.plain (OpenSpec.ofChange sheetInsideSpec)) sheetInsideCard

/-- THE TIED CARD OF 'turnpikelaw15.SheetMemory'. -/
def sheetMemoryCard : Claim7 := { stood := { row := sheetMemoryRow, standIns := [], harness := (true, "fe557470c061c3243ca5b705117e2f677b2d678bf5422beb4b5526ac34c75273"), looks := true }, kinds := [], alts := [], laidByText := true, laidKinds := [.data, .handle, .data, .pinned], laidTests := true, laidLooks := .later }
def SheetMemoryCardSaid : Prop := Claim7.holds Tryz.pinned (.plain (OpenSpec.ofChange sheetMemorySpec)) sheetMemoryCard

/-- THE TIED CARD OF 'turnpikelaw15.SheetBack'. -/
def sheetBackCard : Claim7 := { stood := { row := sheetBackRow, standIns := [], harness := (true, "fe557470c061c3243ca5b705117e2f677b2d678bf5422beb4b5526ac34c75273"), looks := true }, kinds := [], alts := [], laidByText := true, laidKinds := [.data, .data, .data, .data, .handle, .data, .pinned], laidTests := true, laidLooks := .later }
def SheetBackCardSaid : Prop := Claim7.holds Tryz.pinned (.plain (OpenSpec.ofChange sheetBackSpec)) sheetBackCard

/-- THE TIED CARD OF 'turnpikelaw15.SheetCut'. -/
def sheetCutCard : Claim7 := { stood := { row := sheetCutRow, standIns := [], harness := (true, "fe557470c061c3243ca5b705117e2f677b2d678bf5422beb4b5526ac34c75273"), looks := true }, kinds := [], alts := [], laidByText := true, laidKinds := [.data, .data, .data, .data, .handle, .data, .pinned], laidTests := true, laidLooks := .later }
def SheetCutCardSaid : Prop := Claim7.holds Tryz.pinned (.plain (OpenSpec.ofChange sheetCutSpec)) sheetCutCard

/-- THE SECOND FORM's CARD OF 'turnpikelaw15.SheetParses'. -/
def sheetParsesUptoCard : Claim7 := { stood := { row := sheetParsesUptoRow, standIns := [], harness := (true, "fe557470c061c3243ca5b705117e2f677b2d678bf5422beb4b5526ac34c75273"), looks := true }, kinds := [], alts := [], laidByText := true, laidKinds := [.data, .handle, .data, .pinned], laidTests := true, laidLooks := .later }
def SheetParsesUptoCardSaid : Prop := Claim7.holds Tryz.pinned (.plain (OpenSpec.upto sheetParsesSpec)) sheetParsesUptoCard

/-- THE SECOND FORM's CARD OF 'turnpikelaw15.SheetInside'. -/
def sheetInsideUptoCard : Claim7 := { stood := { row := sheetInsideUptoRow, standIns := [], harness := (true, "fe557470c061c3243ca5b705117e2f677b2d678bf5422beb4b5526ac34c75273"), looks := true }, kinds := [], alts := [], laidByText := true, laidKinds := [.data, .handle, .data, .pinned], laidTests := true, laidLooks := .later }
def SheetInsideUptoCardSaid : Prop := Claim7.holds Tryz.pinned (.plain (OpenSpec.upto sheetInsideSpec)) sheetInsideUptoCard

/-- THE SECOND FORM's CARD OF 'turnpikelaw15.SheetMemory'. -/
def sheetMemoryUptoCard : Claim7 := { stood := { row := sheetMemoryUptoRow, standIns := [], harness := (true, "fe557470c061c3243ca5b705117e2f677b2d678bf5422beb4b5526ac34c75273"), looks := true }, kinds := [], alts := [], laidByText := true, laidKinds := [.data, .handle, .data, .pinned], laidTests := true, laidLooks := .later }
def SheetMemoryUptoCardSaid : Prop := Claim7.holds Tryz.pinned (.plain (OpenSpec.upto sheetMemorySpec)) sheetMemoryUptoCard

/-- THE SECOND FORM's CARD OF 'turnpikelaw15.SheetBack'. -/
def sheetBackUptoCard : Claim7 := { stood := { row := sheetBackUptoRow, standIns := [], harness := (true, "fe557470c061c3243ca5b705117e2f677b2d678bf5422beb4b5526ac34c75273"), looks := true }, kinds := [], alts := [], laidByText := true, laidKinds := [.data, .data, .data, .data, .handle, .data, .pinned], laidTests := true, laidLooks := .later }
def SheetBackUptoCardSaid : Prop := Claim7.holds Tryz.pinned (.plain (OpenSpec.upto sheetBackSpec)) sheetBackUptoCard

/-- THE SECOND FORM's CARD OF 'turnpikelaw15.SheetCut'. -/
def sheetCutUptoCard : Claim7 := { stood := { row := sheetCutUptoRow, standIns := [], harness := (true, "fe557470c061c3243ca5b705117e2f677b2d678bf5422beb4b5526ac34c75273"), looks := true }, kinds := [], alts := [], laidByText := true, laidKinds := [.data, .data, .data, .data, .handle, .data, .pinned], laidTests := true, laidLooks := .later }
def SheetCutUptoCardSaid : Prop := Claim7.holds Tryz.pinned (.plain (OpenSpec.upto sheetCutSpec)) sheetCutUptoCard
end Rows
end Go.Proofs.YtlfdeenekjklgaaGreatDoor
