/-
  DERIVED. GIVEN WITH THE SEED: THE CARDS: each row of YtgkpiakapdgglaaDoorRows.lean that lists a variable, with what it lists TIED to the program's text (the seventh form; the later family's looks); each row that meets fmt, with fmt's text TOLD by the authors' own Lean function (tested against real Go, not proved from fmt's source: count such statements apart). THE CARD IS WHAT COUNTS. Prove the row's statement (the work); the ties are given (YtgkpiakapdgglaaDoorTie.lean); close each card by the builder's one call (the guide's Derived/Test/ToyasCard.lean, 'card_holds'). Laid BY PROGRAM, IN A SANDBOX (cutbox-door.mjs). By AI agents, Wed Nov 11 2026. No macro, syntax, notation, axiom, sorry.
-/
import Derived.Test.YtgkpiakapdgglaaDoorRows
import GoSem.ClaimSeven
namespace Go.Proofs.YtgkpiakapdgglaaDoor
namespace Rows

/-- THE TIED CARD OF 'turnpikelaw15.SheetPairs'. -/
def sheetPairsCard : Claim7 := { stood := { row := sheetPairsRow, standIns := [], harness := (true, "6afc07c906baa368a549338f4ba630d474a1009e2a45efd884808d58af904971"), looks := false }, kinds := [], alts := [], laidByText := true, laidKinds := [.data, .pinned], laidTests := true, laidLooks := .later }
def SheetPairsCardSaid : Prop := Claim7.holds Tryd.pinned (.plain (OpenSpec.ofChange sheetPairsSpec)) sheetPairsCard

/-- THE TIED CARD OF 'turnpikelaw15.SheetPrints'. -/
def sheetPrintsCard : Claim7 := { stood := { row := sheetPrintsRow, standIns := [], harness := (true, "6afc07c906baa368a549338f4ba630d474a1009e2a45efd884808d58af904971"), looks := false }, kinds := [], alts := [], laidByText := true, laidKinds := [.data, .pinned], laidTests := true, laidLooks := .later }
def SheetPrintsCardSaid : Prop := Claim7.holds Tryd.pinned (.plain (OpenSpec.ofChange sheetPrintsSpec)) sheetPrintsCard

/-- THE TIED CARD OF 'turnpikelaw15.SheetMarks'. -/
def sheetMarksCard : Claim7 := { stood := { row := sheetMarksRow, standIns := [], harness := (true, "6afc07c906baa368a549338f4ba630d474a1009e2a45efd884808d58af904971"), looks := false }, kinds := [], alts := [], laidByText := true, laidKinds := [.data, .data, .data, .data, .pinned], laidTests := true, laidLooks := .later }
def SheetMarksCardSaid : Prop := Claim7.holds Tryd.pinned (.plain (OpenSpec.ofChange sheetMarksSpec)) sheetMarksCard

/-- THE TIED CARD OF 'turnpikelaw15.SheetDisposes'. -/
def sheetDisposesCard : Claim7 := { stood := { row := sheetDisposesRow, standIns := [], harness := (true, "6afc07c906baa368a549338f4ba630d474a1009e2a45efd884808d58af904971"), looks := false }, kinds := [], alts := [], laidByText := true, laidKinds := [.data, .data, .pinned], laidTests := true, laidLooks := .later }
def SheetDisposesCardSaid : Prop := Claim7.holds Tryd.pinned (.plain (OpenSpec.ofChange sheetDisposesSpec)) sheetDisposesCard

/-- THE TIED CARD OF 'turnpikelaw15.SheetWrites'. -/
def sheetWritesCard : Claim7 := { stood := { row := sheetWritesRow, standIns := [], harness := (true, "6afc07c906baa368a549338f4ba630d474a1009e2a45efd884808d58af904971"), looks := false }, kinds := [], alts := [], laidByText := true, laidKinds := [.data, .data, .pinned], laidTests := true, laidLooks := .later }
def SheetWritesCardSaid : Prop := Claim7.holds Tryd.pinned (.plain (OpenSpec.ofChange sheetWritesSpec)) sheetWritesCard

/-- THE SECOND FORM's CARD OF 'turnpikelaw15.SheetPairs'. -/
def sheetPairsUptoCard : Claim7 := { stood := { row := sheetPairsUptoRow, standIns := [], harness := (true, "6afc07c906baa368a549338f4ba630d474a1009e2a45efd884808d58af904971"), looks := false }, kinds := [], alts := [], laidByText := true, laidKinds := [.data, .pinned], laidTests := true, laidLooks := .later }
def SheetPairsUptoCardSaid : Prop := Claim7.holds Tryd.pinned (.plain (OpenSpec.upto sheetPairsSpec)) sheetPairsUptoCard

/-- THE SECOND FORM's CARD OF 'turnpikelaw15.SheetPrints'. -/
def sheetPrintsUptoCard : Claim7 := { stood := { row := sheetPrintsUptoRow, standIns := [], harness := (true, "6afc07c906baa368a549338f4ba630d474a1009e2a45efd884808d58af904971"), looks := false }, kinds := [], alts := [], laidByText := true, laidKinds := [.data, .pinned], laidTests := true, laidLooks := .later }
def SheetPrintsUptoCardSaid : Prop := Claim7.holds Tryd.pinned (.plain (OpenSpec.upto sheetPrintsSpec)) sheetPrintsUptoCard

/-- THE SECOND FORM's CARD OF 'turnpikelaw15.SheetMarks'. -/
def sheetMarksUptoCard : Claim7 := { stood := { row := sheetMarksUptoRow, standIns := [], harness := (true, "6afc07c906baa368a549338f4ba630d474a1009e2a45efd884808d58af904971"), looks := false }, kinds := [], alts := [], laidByText := true, laidKinds := [.data, .data, .data, .data, .pinned], laidTests := true, laidLooks := .later }
def SheetMarksUptoCardSaid : Prop := Claim7.holds Tryd.pinned (.plain (OpenSpec.upto sheetMarksSpec)) sheetMarksUptoCard

/-- THE SECOND FORM's CARD OF 'turnpikelaw15.SheetDisposes'. -/
def sheetDisposesUptoCard : Claim7 := { stood := { row := sheetDisposesUptoRow, standIns := [], harness := (true, "6afc07c906baa368a549338f4ba630d474a1009e2a45efd884808d58af904971"), looks := false }, kinds := [], alts := [], laidByText := true, laidKinds := [.data, .data, .pinned], laidTests := true, laidLooks := .later }
def SheetDisposesUptoCardSaid : Prop := Claim7.holds Tryd.pinned (.plain (OpenSpec.upto sheetDisposesSpec)) sheetDisposesUptoCard

/-- THE SECOND FORM's CARD OF 'turnpikelaw15.SheetWrites'. -/
def sheetWritesUptoCard : Claim7 := { stood := { row := sheetWritesUptoRow, standIns := [], harness := (true, "6afc07c906baa368a549338f4ba630d474a1009e2a45efd884808d58af904971"), looks := false }, kinds := [], alts := [], laidByText := true, laidKinds := [.data, .data, .pinned], laidTests := true, laidLooks := .later }
def SheetWritesUptoCardSaid : Prop := Claim7.holds Tryd.pinned (.plain (OpenSpec.upto sheetWritesSpec)) sheetWritesUptoCard
end Rows
end Go.Proofs.YtgkpiakapdgglaaDoor
