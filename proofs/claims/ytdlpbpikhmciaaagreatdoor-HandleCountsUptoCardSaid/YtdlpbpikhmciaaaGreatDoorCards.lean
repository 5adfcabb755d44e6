/-
  DERIVED. GIVEN WITH THE SEED: THE CARDS: each row of YtdlpbpikhmciaaaGreatDoorRows.lean that lists a variable, with what it lists TIED to the program's text (the seventh form; the later family's looks); each row that meets fmt, with fmt's text TOLD by the authors' own Lean function (tested against real Go, not proved from fmt's source: count such statements apart). THE CARD IS WHAT COUNTS. Prove the row's statement (the work); the ties are given (YtdlpbpikhmciaaaGreatDoorTie.lean); close each card by the builder's one call (the guide's Derived/Test/ToyasCard.lean, 'card_holds'). Laid BY PROGRAM, IN A SANDBOX (cutbox-door.mjs). By AI agents, Wed Nov 11 2026. No macro, syntax, notation, axiom, sorry.
-/
import Derived.Test.YtdlpbpikhmciaaaGreatDoorRows
import GoSem.ClaimSeven
namespace Go.Proofs.YtdlpbpikhmciaaaGreatDoor
namespace Rows

/-- THE TIED CARD OF 'turnpikelaw18.HandleChecks'. -/
def handleChecksCard : Claim7 := { stood := { row := handleChecksRow, standIns := [], harness := (true, "0d3d39d00728de091fe4a49f11c58c4f36c54130656a966775b6b473732df12c"), looks := true }, kinds := [], alts := [], laidByText := true, laidKinds := [.data, .data, .data, .data, .handle, .data, .widerDeep, .widerDeep, .pinned], laidTests := true, laidLooks := .later }
def HandleChecksCardSaid : Prop := Claim7.holds Tryz.pinned (.plain (OpenSpec.ofChange handleChecksSpec)) handleChecksCard

/-- THE TIED CARD OF 'turnpikelaw18.HandleRefers'. -/
def handleRefersCard : Claim7 := { stood := { row := handleRefersRow, standIns := [], harness := (true, "0d3d39d00728de091fe4a49f11c58c4f36c54130656a966775b6b473732df12c"), looks := true }, kinds := [], alts := [], laidByText := true, laidKinds := [.data, .data, .data, .data, .handle, .data, .widerDeep, .widerDeep, .pinned], laidTests := true, laidLooks := .later }
def HandleRefersCardSaid : Prop := Claim7.holds Tryz.pinned (.plain (OpenSpec.ofChange handleRefersSpec)) handleRefersCard

/-- THE TIED CARD OF 'turnpikelaw18.HandlePlains'. -/
def handlePlainsCard : Claim7 := { stood := { row := handlePlainsRow, standIns := [], harness := (true, "0d3d39d00728de091fe4a49f11c58c4f36c54130656a966775b6b473732df12c"), looks := true }, kinds := [], alts := [], laidByText := true, laidKinds := [.data, .data, .data, .data, .handle, .data, .widerDeep, .widerDeep, .pinned], laidTests := true, laidLooks := .later }
def HandlePlainsCardSaid : Prop := Claim7.holds Tryz.pinned (.plain (OpenSpec.ofChange handlePlainsSpec)) handlePlainsCard

/-- THE TIED CARD OF 'turnpikelaw18.HandleCounts'. -/
def handleCountsCard : Claim7 := { stood := { row := handleCountsRow, standIns := [], harness := (true, "0d3d39d00728de091fe4a49f11c58c4f36c54130656a966775b6b473732df12c"), looks := true }, kinds := [], alts := [], laidByText := true, laidKinds := [.data, .data, .data, .data, .handle, .data, .widerDeep, .widerDeep, .pinned], laidTests := true, laidLooks := .later }
def HandleCountsCardSaid : Prop := Claim7.holds Tryz.pinned (.plain (OpenSpec.ofChange handleCountsSpec)) handleCountsCard

/-- THE TIED CARD OF 'turnpikelaw18.HandleUpgrades'. -/
def handleUpgradesCard : Claim7 := { stood := { row := handleUpgradesRow, standIns := [], harness := (true, "0d3d39d00728de091fe4a49f11c58c4f36c54130656a966775b6b473732df12c"), looks := true }, kinds := [], alts := [], laidByText := true, laidKinds := [.data, .data, .data, .data, .handle, .data, .widerDeep, .widerDeep, .pinned], laidTests := true, laidLooks := .later }
def HandleUpgradesCardSaid : Prop := Claim7.holds Tryz.pinned (.plain (OpenSpec.ofChange handleUpgradesSpec)) handleUpgradesCard

/-- THE SECOND FORM's CARD OF 'turnpikelaw18.HandleChecks'. -/
def handleChecksUptoCard : Claim7 := { stood := { row := handleChecksUptoRow, standIns := [], harness := (true, "0d3d39d00728de091fe4a49f11c58c4f36c54130656a966775b6b473732df12c"), looks := true }, kinds := [], alts := [], laidByText := true, laidKinds := [.data, .data, .data, .data, .handle, .data, .widerDeep, .widerDeep, .pinned], laidTests := true, laidLooks := .later }
def HandleChecksUptoCardSaid : Prop := Claim7.holds Tryz.pinned (.plain (OpenSpec.upto handleChecksSpec)) handleChecksUptoCard

/-- THE SECOND FORM's CARD OF 'turnpikelaw18.HandleRefers'. -/
def handleRefersUptoCard : Claim7 := { stood := { row := handleRefersUptoRow, standIns := [], harness := (true, "0d3d39d00728de091fe4a49f11c58c4f36c54130656a966775b6b473732df12c"), looks := true }, kinds := [], alts := [], laidByText := true, laidKinds := [.data, .data, .data, .data, .handle, .data, .widerDeep, .widerDeep, .pinned], laidTests := true, laidLooks := .later }
def HandleRefersUptoCardSaid : Prop := Claim7.holds Tryz.pinned (.plain (OpenSpec.upto handleRefersSpec)) handleRefersUptoCard

/-- THE SECOND FORM's CARD OF 'turnpikelaw18.HandlePlains'. -/
def handlePlainsUptoCard : Claim7 := { stood := { row := handlePlainsUptoRow, standIns := [], harness := (true, "0d3d39d00728de091fe4a49f11c58c4f36c54130656a966775b6b473732df12c"), looks := true }, kinds := [], alts := [], laidByText := true, laidKinds := [.data, .data, .data, .data, .handle, .data, .widerDeep, .widerDeep, .pinned], laidTests := true, laidLooks := .later }
def HandlePlainsUptoCardSaid : Prop := Claim7.holds Tryz.pinned (.plain (OpenSpec.upto handlePlainsSpec)) handlePlainsUptoCard

/-- THE SECOND FORM's CARD OF 'turnpikelaw18.HandleCounts'. -/
def handleCountsUptoCard : Claim7 := { stood := { row := handleCountsUptoRow, standIns := [], harness := (true, "0d3d39d00728de091fe4a49f11c58c4f36c54130656a966775b6b473732df12c"), looks := true }, kinds := [], alts := [], laidByText := true, laidKinds := [.data, .data, .data, .data, .handle, .data, .widerDeep, .widerDeep, .pinned], laidTests := true, laidLooks := .later }
def HandleCountsUptoCardSaid : Prop := Claim7.holds Tryz.pinned (.plain (OpenSpec.upto handleCountsSpec)) handleCountsUptoCard

/-- THE SECOND FORM's CARD OF 'turnpikelaw18.HandleUpgrades'. -/
def handleUpgradesUptoCard : Claim7 := { stood := { row := handleUpgradesUptoRow, standIns := [], harness := (true, "0d3d39d00728de091fe4a49f11c58c4f36c54130656a966775b6b473732df12c"), looks := true }, kinds := [], alts := [], laidByText := true, laidKinds := [.data, .data, .data, .data, .handle, .data, .widerDeep, .widerDeep, .pinned], laidTests := true, laidLooks := .later }
def HandleUpgradesUptoCardSaid : Prop := Claim7.holds Tryz.pinned (.plain (OpenSpec.upto handleUpgradesSpec)) handleUpgradesUptoCard
end Rows
end Go.Proofs.YtdlpbpikhmciaaaGreatDoor
