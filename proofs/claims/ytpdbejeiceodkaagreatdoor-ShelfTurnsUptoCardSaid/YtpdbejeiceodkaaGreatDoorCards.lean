/-
  DERIVED. GIVEN WITH THE SEED: THE CARDS: each row of YtpdbejeiceodkaaGreatDoorRows.lean that lists a variable, with what it lists TIED to the program's text (the seventh form; the later family's looks); each row that meets fmt, with fmt's text TOLD by the authors' own Lean function (tested against real Go, not proved from fmt's source: count such statements apart). THE CARD IS WHAT COUNTS. Prove the row's statement (the work); the ties are given (YtpdbejeiceodkaaGreatDoorTie.lean); close each card by the builder's one call (the guide's Derived/Test/ToyasCard.lean, 'card_holds'). Laid BY PROGRAM, IN A SANDBOX (cutbox-door.mjs). By AI agents, Wed Nov 11 2026. No macro, syntax, notation, axiom, sorry.
-/
import Derived.Test.YtpdbejeiceodkaaGreatDoorRows
import GoSem.ClaimSeven
namespace Go.Proofs.YtpdbejeiceodkaaGreatDoor
namespace Rows

/-- THE TIED CARD OF 'turnpikelaw17.ShelfMedia'. -/
def shelfMediaCard : Claim7 := { stood := { row := shelfMediaRow, standIns := [], harness := (true, "08b1a44803cf1996ed41b17d873ddfc9a60b149a2afd145e6c888b0bb67c1dd3"), looks := false }, kinds := [], alts := [], laidByText := true, laidKinds := [.data, .data, .pinned], laidTests := true, laidLooks := .later }
def ShelfMediaCardSaid : Prop := Claim7.holds Tryz.pinned (.plain (OpenSpec.ofChange shelfMediaSpec)) shelfMediaCard

/-- THE TIED CARD OF 'turnpikelaw17.ShelfFinds'. -/
def shelfFindsCard : Claim7 := { stood := { row := shelfFindsRow, standIns := [], harness := (true, "08b1a44803cf1996ed41b17d873ddfc9a60b149a2afd145e6c888b0bb67c1dd3"), looks := false }, kinds := [], alts := [], laidByText := true, laidKinds := [.data, .data, .pinned], laidTests := true, laidLooks := .later }
def ShelfFindsCardSaid : Prop := Claim7.holds Tryz.pinned (.plain (OpenSpec.ofChange shelfFindsSpec)) shelfFindsCard

/-- THE TIED CARD OF 'turnpikelaw17.ShelfTwo'. -/
def shelfTwoCard : Claim7 := { stood := { row := shelfTwoRow, standIns := [], harness := (true, "08b1a44803cf1996ed41b17d873ddfc9a60b149a2afd145e6c888b0bb67c1dd3"), looks := false }, kinds := [], alts := [], laidByText := true, laidKinds := [.data, .data, .pinned], laidTests := true, laidLooks := .later }
def ShelfTwoCardSaid : Prop := Claim7.holds Tryz.pinned (.plain (OpenSpec.ofChange shelfTwoSpec)) shelfTwoCard

/-- THE TIED CARD OF 'turnpikelaw17.ShelfPaths'. -/
def shelfPathsCard : Claim7 := { stood := { row := shelfPathsRow, standIns := [], harness := (true, "08b1a44803cf1996ed41b17d873ddfc9a60b149a2afd145e6c888b0bb67c1dd3"), looks := false }, kinds := [], alts := [], laidByText := true, laidKinds := [.data, .data, .pinned], laidTests := true, laidLooks := .later }
def ShelfPathsCardSaid : Prop := Claim7.holds Tryz.pinned (.plain (OpenSpec.ofChange shelfPathsSpec)) shelfPathsCard

/-- THE TIED CARD OF 'turnpikelaw17.ShelfMemory'. -/
def shelfMemoryCard : Claim7 := { stood := { row := shelfMemoryRow, standIns := [], harness := (true, "08b1a44803cf1996ed41b17d873ddfc9a60b149a2afd145e6c888b0bb67c1dd3"), looks := false }, kinds := [], alts := [], laidByText := true, laidKinds := [.data, .data, .pinned], laidTests := true, laidLooks := .later }
def ShelfMemoryCardSaid : Prop := Claim7.holds Tryz.pinned (.plain (OpenSpec.ofChange shelfMemorySpec)) shelfMemoryCard

/-- THE TIED CARD OF 'turnpikelaw17.ShelfStands'. -/
def shelfStandsCard : Claim7 := { stood := { row := shelfStandsRow, standIns := [], harness := (true, "08b1a44803cf1996ed41b17d873ddfc9a60b149a2afd145e6c888b0bb67c1dd3"), looks := false }, kinds := [], alts := [], laidByText := true, laidKinds := [.data, .data, .pinned], laidTests := true, laidLooks := .later }
def ShelfStandsCardSaid : Prop := Claim7.holds Tryz.pinned (.plain (OpenSpec.ofChange shelfStandsSpec)) shelfStandsCard

/-- THE TIED CARD OF 'turnpikelaw17.ShelfMakes'. -/
def shelfMakesCard : Claim7 := { stood := { row := shelfMakesRow, standIns := [], harness := (true, "08b1a44803cf1996ed41b17d873ddfc9a60b149a2afd145e6c888b0bb67c1dd3"), looks := false }, kinds := [], alts := [], laidByText := true, laidKinds := [.data, .data, .data, .data, .data, .pinned], laidTests := true, laidLooks := .later }
def ShelfMakesCardSaid : Prop := Claim7.holds Tryz.pinned (.plain (OpenSpec.ofChange shelfMakesSpec)) shelfMakesCard

/-- THE TIED CARD OF 'turnpikelaw17.ShelfNil'. -/
def shelfNilCard : Claim7 := { stood := { row := shelfNilRow, standIns := [], harness := (true, "08b1a44803cf1996ed41b17d873ddfc9a60b149a2afd145e6c888b0bb67c1dd3"), looks := false }, kinds := [], alts := [], laidByText := true, laidKinds := [.data, .data, .data, .data, .data, .pinned], laidTests := true, laidLooks := .later }
def ShelfNilCardSaid : Prop := Claim7.holds Tryz.pinned (.plain (OpenSpec.ofChange shelfNilSpec)) shelfNilCard

/-- THE TIED CARD OF 'turnpikelaw17.ShelfTurns'. -/
def shelfTurnsCard : Claim7 := { stood := { row := shelfTurnsRow, standIns := [], harness := (true, "08b1a44803cf1996ed41b17d873ddfc9a60b149a2afd145e6c888b0bb67c1dd3"), looks := false }, kinds := [], alts := [], laidByText := true, laidKinds := [.data, .data, .data, .data, .data, .pinned], laidTests := true, laidLooks := .later }
def ShelfTurnsCardSaid : Prop := Claim7.holds Tryz.pinned (.plain (OpenSpec.ofChange shelfTurnsSpec)) shelfTurnsCard

/-- THE SECOND FORM's CARD OF 'turnpikelaw17.ShelfMedia'. -/
def shelfMediaUptoCard : Claim7 := { stood := { row := shelfMediaUptoRow, standIns := [], harness := (true, "08b1a44803cf1996ed41b17d873ddfc9a60b149a2afd145e6c888b0bb67c1dd3"), looks := false }, kinds := [], alts := [], laidByText := true, laidKinds := [.data, .data, .pinned], laidTests := true, laidLooks := .later }
def ShelfMediaUptoCardSaid : Prop := Claim7.holds Tryz.pinned (.plain (OpenSpec.upto shelfMediaSpec)) shelfMediaUptoCard

/-- THE SECOND FORM's CARD OF 'turnpikelaw17.ShelfFinds'. -/
def shelfFindsUptoCard : Claim7 := { stood := { row := shelfFindsUptoRow, standIns := [], harness := (true, "08b1a44803cf1996ed41b17d873ddfc9a60b149a2afd145e6c888b0bb67c1dd3"), looks := false }, kinds := [], alts := [], laidByText := true, laidKinds := [.data, .data, .pinned], laidTests := true, laidLooks := .later }
def ShelfFindsUptoCardSaid : Prop := Claim7.holds Tryz.pinned (.plain (OpenSpec.upto shelfFindsSpec)) shelfFindsUptoCard

/-- THE SECOND FORM's CARD OF 'turnpikelaw17.ShelfTwo'. -/
def shelfTwoUptoCard : Claim7 := { stood := { row := shelfTwoUptoRow, standIns := [], harness := (true, "08b1a44803cf1996ed41b17d873ddfc9a60b149a2afd145e6c888b0bb67c1dd3"), looks := false }, kinds := [], alts := [], laidByText := true, laidKinds := [.data, .data, .pinned], laidTests := true, laidLooks := .later }
def ShelfTwoUptoCardSaid : Prop := Claim7.holds Tryz.pinned (.plain (OpenSpec.upto shelfTwoSpec)) shelfTwoUptoCard

/-- THE SECOND FORM's CARD OF 'turnpikelaw17.ShelfPaths'. -/
def shelfPathsUptoCard : Claim7 := { stood := { row := shelfPathsUptoRow, standIns := [], harness := (true, "08b1a44803cf1996ed41b17d873ddfc9a60b149a2afd145e6c888b0bb67c1dd3"), looks := false }, kinds := [], alts := [], laidByText := true, laidKinds := [.data, .data, .pinned], laidTests := true, laidLooks := .later }
def ShelfPathsUptoCardSaid : Prop := Claim7.holds Tryz.pinned (.plain (OpenSpec.upto shelfPathsSpec)) shelfPathsUptoCard

/-- THE SECOND FORM's CARD OF 'turnpikelaw17.ShelfMemory'. -/
def shelfMemoryUptoCard : Claim7 := { stood := { row := shelfMemoryUptoRow, standIns := [], harness := (true, "08b1a44803cf1996ed41b17d873ddfc9a60b149a2afd145e6c888b0bb67c1dd3"), looks := false }, kinds := [], alts := [], laidByText := true, laidKinds := [.data, .data, .pinned], laidTests := true, laidLooks := .later }
def ShelfMemoryUptoCardSaid : Prop := Claim7.holds Tryz.pinned (.plain (OpenSpec.upto shelfMemorySpec)) shelfMemoryUptoCard

/-- THE SECOND FORM's CARD OF 'turnpikelaw17.ShelfStands'. -/
def shelfStandsUptoCard : Claim7 := { stood := { row := shelfStandsUptoRow, standIns := [], harness := (true, "08b1a44803cf1996ed41b17d873ddfc9a60b149a2afd145e6c888b0bb67c1dd3"), looks := false }, kinds := [], alts := [], laidByText := true, laidKinds := [.data, .data, .pinned], laidTests := true, laidLooks := .later }
def ShelfStandsUptoCardSaid : Prop := Claim7.holds Tryz.pinned (.plain (OpenSpec.upto shelfStandsSpec)) shelfStandsUptoCard

/-- THE SECOND FORM's CARD OF 'turnpikelaw17.ShelfMakes'. -/
def shelfMakesUptoCard : Claim7 := { stood := { row := shelfMakesUptoRow, standIns := [], harness := (true, "08b1a44803cf1996ed41b17d873ddfc9a60b149a2afd145e6c888b0bb67c1dd3"), looks := false }, kinds := [], alts := [], laidByText := true, laidKinds := [.data, .data, .data, .data, .data, .pinned], laidTests := true, laidLooks := .later }
def ShelfMakesUptoCardSaid : Prop := Claim7.holds Tryz.pinned (.plain (OpenSpec.upto shelfMakesSpec)) shelfMakesUptoCard

/-- THE SECOND FORM's CARD OF 'turnpikelaw17.ShelfNil'. -/
def shelfNilUptoCard : Claim7 := { stood := { row := shelfNilUptoRow, standIns := [], harness := (true, "08b1a44803cf1996ed41b17d873ddfc9a60b149a2afd145e6c888b0bb67c1dd3"), looks := false }, kinds := [], alts := [], laidByText := true, laidKinds := [.data, .data, .data, .data, .data, .pinned], laidTests := true, laidLooks := .later }
def ShelfNilUptoCardSaid : Prop := Claim7.holds Tryz.pinned (.plain (OpenSpec.upto shelfNilSpec)) shelfNilUptoCard

/-- THE SECOND FORM's CARD OF 'turnpikelaw17.ShelfTurns'. -/
def shelfTurnsUptoCard : Claim7 := { stood := { row := shelfTurnsUptoRow, standIns := [], harness := (true, "08b1a44803cf1996ed41b17d873ddfc9a60b149a2afd145e6c888b0bb67c1dd3"), looks := false }, kinds := [], alts := [], laidByText := true, laidKinds := [.data, .data, .data, .data, .data, .pinned], laidTests := true, laidLooks := .later }
def ShelfTurnsUptoCardSaid : Prop := Claim7.holds Tryz.pinned (.plain (OpenSpec.upto shelfTurnsSpec)) shelfTurnsUptoCard
end Rows
end Go.Proofs.YtpdbejeiceodkaaGreatDoor
