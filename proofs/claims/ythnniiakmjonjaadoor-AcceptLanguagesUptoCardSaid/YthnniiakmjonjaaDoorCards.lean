/-
  DERIVED. GIVEN WITH THE SEED: THE CARDS: each row of YthnniiakmjonjaaDoorRows.lean that lists a variable, with what it lists TIED to the program's text (the seventh form; the later family's looks); each row that meets fmt, with fmt's text TOLD by the authors' own Lean function (tested against real Go, not proved from fmt's source: count such statements apart). THE CARD IS WHAT COUNTS. Prove the row's statement (the work); the ties are given (YthnniiakmjonjaaDoorTie.lean); close each card by the builder's one call (the guide's Derived/Test/ToyasCard.lean, 'card_holds'). Laid BY PROGRAM, IN A SANDBOX (cutbox-door.mjs). By AI agents, Wed Nov 11 2026. No macro, syntax, notation, axiom, sorry.
-/
import Derived.Test.YthnniiakmjonjaaDoorRows
import GoSem.ClaimSeven
namespace Go.Proofs.YthnniiakmjonjaaDoor
namespace Rows

/-- THE TIED CARD OF 'turnpikelaw07.AcceptParses'. -/
def acceptParsesCard : Claim7 := { stood := { row := acceptParsesRow, standIns := [], harness := (true, "9094364da19560ed678480a6476e6c1201e4aec3f91e4655779abefd9f88f055"), looks := false }, kinds := [], alts := [], laidByText := true, laidKinds := [.data, .data, .pinned], laidTests := true, laidLooks := .later }
def AcceptParsesCardSaid : Prop := Claim7.holds Tryd.pinned (.plain (OpenSpec.ofChange acceptParsesSpec)) acceptParsesCard

/-- THE TIED CARD OF 'turnpikelaw07.AcceptQualities'. -/
def acceptQualitiesCard : Claim7 := { stood := { row := acceptQualitiesRow, standIns := [], harness := (true, "9094364da19560ed678480a6476e6c1201e4aec3f91e4655779abefd9f88f055"), looks := false }, kinds := [], alts := [], laidByText := true, laidKinds := [.data, .data, .pinned], laidTests := true, laidLooks := .later }
def AcceptQualitiesCardSaid : Prop := Claim7.holds Tryd.pinned (.plain (OpenSpec.ofChange acceptQualitiesSpec)) acceptQualitiesCard

/-- THE TIED CARD OF 'turnpikelaw07.AcceptMeets'. -/
def acceptMeetsCard : Claim7 := { stood := { row := acceptMeetsRow, standIns := [], harness := (true, "9094364da19560ed678480a6476e6c1201e4aec3f91e4655779abefd9f88f055"), looks := false }, kinds := [], alts := [], laidByText := true, laidKinds := [.data, .data, .pinned], laidTests := true, laidLooks := .later }
def AcceptMeetsCardSaid : Prop := Claim7.holds Tryd.pinned (.plain (OpenSpec.ofChange acceptMeetsSpec)) acceptMeetsCard

/-- THE TIED CARD OF 'turnpikelaw07.AcceptCodings'. -/
def acceptCodingsCard : Claim7 := { stood := { row := acceptCodingsRow, standIns := [], harness := (true, "9094364da19560ed678480a6476e6c1201e4aec3f91e4655779abefd9f88f055"), looks := false }, kinds := [], alts := [], laidByText := true, laidKinds := [.data, .data, .pinned], laidTests := true, laidLooks := .later }
def AcceptCodingsCardSaid : Prop := Claim7.holds Tryd.pinned (.plain (OpenSpec.ofChange acceptCodingsSpec)) acceptCodingsCard

/-- THE TIED CARD OF 'turnpikelaw07.AcceptPrints'. -/
def acceptPrintsCard : Claim7 := { stood := { row := acceptPrintsRow, standIns := [], harness := (true, "9094364da19560ed678480a6476e6c1201e4aec3f91e4655779abefd9f88f055"), looks := false }, kinds := [], alts := [], laidByText := true, laidKinds := [.data, .data, .pinned], laidTests := true, laidLooks := .later }
def AcceptPrintsCardSaid : Prop := Claim7.holds Tryd.pinned (.plain (OpenSpec.ofChange acceptPrintsSpec)) acceptPrintsCard

/-- THE TIED CARD OF 'turnpikelaw07.AcceptLikes'. -/
def acceptLikesCard : Claim7 := { stood := { row := acceptLikesRow, standIns := [], harness := (true, "9094364da19560ed678480a6476e6c1201e4aec3f91e4655779abefd9f88f055"), looks := false }, kinds := [], alts := [], laidByText := true, laidKinds := [.data, .data, .pinned], laidTests := true, laidLooks := .later }
def AcceptLikesCardSaid : Prop := Claim7.holds Tryd.pinned (.plain (OpenSpec.ofChange acceptLikesSpec)) acceptLikesCard

/-- THE TIED CARD OF 'turnpikelaw07.AcceptRanges'. -/
def acceptRangesCard : Claim7 := { stood := { row := acceptRangesRow, standIns := [], harness := (true, "9094364da19560ed678480a6476e6c1201e4aec3f91e4655779abefd9f88f055"), looks := false }, kinds := [], alts := [], laidByText := true, laidKinds := [.data, .data, .pinned], laidTests := true, laidLooks := .later }
def AcceptRangesCardSaid : Prop := Claim7.holds Tryd.pinned (.plain (OpenSpec.ofChange acceptRangesSpec)) acceptRangesCard

/-- THE TIED CARD OF 'turnpikelaw07.AcceptWeights'. -/
def acceptWeightsCard : Claim7 := { stood := { row := acceptWeightsRow, standIns := [], harness := (true, "9094364da19560ed678480a6476e6c1201e4aec3f91e4655779abefd9f88f055"), looks := false }, kinds := [], alts := [], laidByText := true, laidKinds := [.data, .data, .pinned], laidTests := true, laidLooks := .later }
def AcceptWeightsCardSaid : Prop := Claim7.holds Tryd.pinned (.plain (OpenSpec.ofChange acceptWeightsSpec)) acceptWeightsCard

/-- THE TIED CARD OF 'turnpikelaw07.AcceptChooses'. -/
def acceptChoosesCard : Claim7 := { stood := { row := acceptChoosesRow, standIns := [], harness := (true, "9094364da19560ed678480a6476e6c1201e4aec3f91e4655779abefd9f88f055"), looks := false }, kinds := [], alts := [], laidByText := true, laidKinds := [.data, .data, .pinned], laidTests := true, laidLooks := .later }
def AcceptChoosesCardSaid : Prop := Claim7.holds Tryd.pinned (.plain (OpenSpec.ofChange acceptChoosesSpec)) acceptChoosesCard

/-- THE TIED CARD OF 'turnpikelaw07.AcceptBest'. -/
def acceptBestCard : Claim7 := { stood := { row := acceptBestRow, standIns := [], harness := (true, "9094364da19560ed678480a6476e6c1201e4aec3f91e4655779abefd9f88f055"), looks := false }, kinds := [], alts := [], laidByText := true, laidKinds := [.data, .data, .pinned], laidTests := true, laidLooks := .later }
def AcceptBestCardSaid : Prop := Claim7.holds Tryd.pinned (.plain (OpenSpec.ofChange acceptBestSpec)) acceptBestCard

/-- THE TIED CARD OF 'turnpikelaw07.AcceptMemory'. -/
def acceptMemoryCard : Claim7 := { stood := { row := acceptMemoryRow, standIns := [], harness := (true, "9094364da19560ed678480a6476e6c1201e4aec3f91e4655779abefd9f88f055"), looks := false }, kinds := [], alts := [], laidByText := true, laidKinds := [.data, .data, .pinned], laidTests := true, laidLooks := .later }
def AcceptMemoryCardSaid : Prop := Claim7.holds Tryd.pinned (.plain (OpenSpec.ofChange acceptMemorySpec)) acceptMemoryCard

/-- THE TIED CARD OF 'turnpikelaw07.AcceptTold'. -/
def acceptToldCard : Claim7 := { stood := { row := acceptToldRow, standIns := [], harness := (true, "9094364da19560ed678480a6476e6c1201e4aec3f91e4655779abefd9f88f055"), looks := false }, kinds := [], alts := [], laidByText := true, laidKinds := [.data, .data, .pinned], laidTests := true, laidLooks := .later }
def AcceptToldCardSaid : Prop := Claim7.holds Tryd.pinned (.plain (OpenSpec.ofChange acceptToldSpec)) acceptToldCard

/-- THE TIED CARD OF 'turnpikelaw07.AcceptLanguages'. -/
def acceptLanguagesCard : Claim7 := { stood := { row := acceptLanguagesRow, standIns := [], harness := (true, "9094364da19560ed678480a6476e6c1201e4aec3f91e4655779abefd9f88f055"), looks := false }, kinds := [], alts := [], laidByText := true, laidKinds := [.data, .data, .pinned], laidTests := true, laidLooks := .later }
def AcceptLanguagesCardSaid : Prop := Claim7.holds Tryd.pinned (.plain (OpenSpec.ofChange acceptLanguagesSpec)) acceptLanguagesCard

/-- THE TIED CARD OF 'turnpikelaw07.AcceptThousandths'. -/
def acceptThousandthsCard : Claim7 := { stood := { row := acceptThousandthsRow, standIns := [], harness := (true, "9094364da19560ed678480a6476e6c1201e4aec3f91e4655779abefd9f88f055"), looks := false }, kinds := [], alts := [], laidByText := true, laidKinds := [.data, .data, .data, .data, .data, .pinned], laidTests := true, laidLooks := .later }
def AcceptThousandthsCardSaid : Prop := Claim7.holds Tryd.pinned (.plain (OpenSpec.ofChange acceptThousandthsSpec)) acceptThousandthsCard

/-- THE SECOND FORM's CARD OF 'turnpikelaw07.AcceptParses'. -/
def acceptParsesUptoCard : Claim7 := { stood := { row := acceptParsesUptoRow, standIns := [], harness := (true, "9094364da19560ed678480a6476e6c1201e4aec3f91e4655779abefd9f88f055"), looks := false }, kinds := [], alts := [], laidByText := true, laidKinds := [.data, .data, .pinned], laidTests := true, laidLooks := .later }
def AcceptParsesUptoCardSaid : Prop := Claim7.holds Tryd.pinned (.plain (OpenSpec.upto acceptParsesSpec)) acceptParsesUptoCard

/-- THE SECOND FORM's CARD OF 'turnpikelaw07.AcceptQualities'. -/
def acceptQualitiesUptoCard : Claim7 := { stood := { row := acceptQualitiesUptoRow, standIns := [], harness := (true, "9094364da19560ed678480a6476e6c1201e4aec3f91e4655779abefd9f88f055"), looks := false }, kinds := [], alts := [], laidByText := true, laidKinds := [.data, .data, .pinned], laidTests := true, laidLooks := .later }
def AcceptQualitiesUptoCardSaid : Prop := Claim7.holds Tryd.pinned (.plain (OpenSpec.upto acceptQualitiesSpec)) acceptQualitiesUptoCard

/-- THE SECOND FORM's CARD OF 'turnpikelaw07.AcceptMeets'. -/
def acceptMeetsUptoCard : Claim7 := { stood := { row := acceptMeetsUptoRow, standIns := [], harness := (true, "9094364da19560ed678480a6476e6c1201e4aec3f91e4655779abefd9f88f055"), looks := false }, kinds := [], alts := [], laidByText := true, laidKinds := [.data, .data, .pinned], laidTests := true, laidLooks := .later }
def AcceptMeetsUptoCardSaid : Prop := Claim7.holds Tryd.pinned (.plain (OpenSpec.upto acceptMeetsSpec)) acceptMeetsUptoCard

/-- THE SECOND FORM's CARD OF 'turnpikelaw07.AcceptCodings'. -/
def acceptCodingsUptoCard : Claim7 := { stood := { row := acceptCodingsUptoRow, standIns := [], harness := (true, "9094364da19560ed678480a6476e6c1201e4aec3f91e4655779abefd9f88f055"), looks := false }, kinds := [], alts := [], laidByText := true, laidKinds := [.data, .data, .pinned], laidTests := true, laidLooks := .later }
def AcceptCodingsUptoCardSaid : Prop := Claim7.holds Tryd.pinned (.plain (OpenSpec.upto acceptCodingsSpec)) acceptCodingsUptoCard

/-- THE SECOND FORM's CARD OF 'turnpikelaw07.AcceptPrints'. -/
def acceptPrintsUptoCard : Claim7 := { stood := { row := acceptPrintsUptoRow, standIns := [], harness := (true, "9094364da19560ed678480a6476e6c1201e4aec3f91e4655779abefd9f88f055"), looks := false }, kinds := [], alts := [], laidByText := true, laidKinds := [.data, .data, .pinned], laidTests := true, laidLooks := .later }
def AcceptPrintsUptoCardSaid : Prop := Claim7.holds Tryd.pinned (.plain (OpenSpec.upto acceptPrintsSpec)) acceptPrintsUptoCard

/-- THE SECOND FORM's CARD OF 'turnpikelaw07.AcceptLikes'. -/
def acceptLikesUptoCard : Claim7 := { stood := { row := acceptLikesUptoRow, standIns := [], harness := (true, "9094364da19560ed678480a6476e6c1201e4aec3f91e4655779abefd9f88f055"), looks := false }, kinds := [], alts := [], laidByText := true, laidKinds := [.data, .data, .pinned], laidTests := true, laidLooks := .later }
def AcceptLikesUptoCardSaid : Prop := Claim7.holds Tryd.pinned (.plain (OpenSpec.upto acceptLikesSpec)) acceptLikesUptoCard

/-- THE SECOND FORM's CARD OF 'turnpikelaw07.AcceptRanges'. -/
def acceptRangesUptoCard : Claim7 := { stood := { row := acceptRangesUptoRow, standIns := [], harness := (true, "9094364da19560ed678480a6476e6c1201e4aec3f91e4655779abefd9f88f055"), looks := false }, kinds := [], alts := [], laidByText := true, laidKinds := [.data, .data, .pinned], laidTests := true, laidLooks := .later }
def AcceptRangesUptoCardSaid : Prop := Claim7.holds Tryd.pinned (.plain (OpenSpec.upto acceptRangesSpec)) acceptRangesUptoCard

/-- THE SECOND FORM's CARD OF 'turnpikelaw07.AcceptWeights'. -/
def acceptWeightsUptoCard : Claim7 := { stood := { row := acceptWeightsUptoRow, standIns := [], harness := (true, "9094364da19560ed678480a6476e6c1201e4aec3f91e4655779abefd9f88f055"), looks := false }, kinds := [], alts := [], laidByText := true, laidKinds := [.data, .data, .pinned], laidTests := true, laidLooks := .later }
def AcceptWeightsUptoCardSaid : Prop := Claim7.holds Tryd.pinned (.plain (OpenSpec.upto acceptWeightsSpec)) acceptWeightsUptoCard

/-- THE SECOND FORM's CARD OF 'turnpikelaw07.AcceptChooses'. -/
def acceptChoosesUptoCard : Claim7 := { stood := { row := acceptChoosesUptoRow, standIns := [], harness := (true, "9094364da19560ed678480a6476e6c1201e4aec3f91e4655779abefd9f88f055"), looks := false }, kinds := [], alts := [], laidByText := true, laidKinds := [.data, .data, .pinned], laidTests := true, laidLooks := .later }
def AcceptChoosesUptoCardSaid : Prop := Claim7.holds Tryd.pinned (.plain (OpenSpec.upto acceptChoosesSpec)) acceptChoosesUptoCard

/-- THE SECOND FORM's CARD OF 'turnpikelaw07.AcceptBest'. -/
def acceptBestUptoCard : Claim7 := { stood := { row := acceptBestUptoRow, standIns := [], harness := (true, "9094364da19560ed678480a6476e6c1201e4aec3f91e4655779abefd9f88f055"), looks := false }, kinds := [], alts := [], laidByText := true, laidKinds := [.data, .data, .pinned], laidTests := true, laidLooks := .later }
def AcceptBestUptoCardSaid : Prop := Claim7.holds Tryd.pinned (.plain (OpenSpec.upto acceptBestSpec)) acceptBestUptoCard

/-- THE SECOND FORM's CARD OF 'turnpikelaw07.AcceptMemory'. -/
def acceptMemoryUptoCard : Claim7 := { stood := { row := acceptMemoryUptoRow, standIns := [], harness := (true, "9094364da19560ed678480a6476e6c1201e4aec3f91e4655779abefd9f88f055"), looks := false }, kinds := [], alts := [], laidByText := true, laidKinds := [.data, .data, .pinned], laidTests := true, laidLooks := .later }
def AcceptMemoryUptoCardSaid : Prop := Claim7.holds Tryd.pinned (.plain (OpenSpec.upto acceptMemorySpec)) acceptMemoryUptoCard

/-- THE SECOND FORM's CARD OF 'turnpikelaw07.AcceptTold'. -/
def acceptToldUptoCard : Claim7 := { stood := { row := acceptToldUptoRow, standIns := [], harness := (true, "9094364da19560ed678480a6476e6c1201e4aec3f91e4655779abefd9f88f055"), looks := false }, kinds := [], alts := [], laidByText := true, laidKinds := [.data, .data, .pinned], laidTests := true, laidLooks := .later }
def AcceptToldUptoCardSaid : Prop := Claim7.holds Tryd.pinned (.plain (OpenSpec.upto acceptToldSpec)) acceptToldUptoCard

/-- THE SECOND FORM's CARD OF 'turnpikelaw07.AcceptLanguages'. -/
def acceptLanguagesUptoCard : Claim7 := { stood := { row := acceptLanguagesUptoRow, standIns := [], harness := (true, "9094364da19560ed678480a6476e6c1201e4aec3f91e4655779abefd9f88f055"), looks := false }, kinds := [], alts := [], laidByText := true, laidKinds := [.data, .data, .pinned], laidTests := true, laidLooks := .later }
def AcceptLanguagesUptoCardSaid : Prop := Claim7.holds Tryd.pinned (.plain (OpenSpec.upto acceptLanguagesSpec)) acceptLanguagesUptoCard

/-- THE SECOND FORM's CARD OF 'turnpikelaw07.AcceptThousandths'. -/
def acceptThousandthsUptoCard : Claim7 := { stood := { row := acceptThousandthsUptoRow, standIns := [], harness := (true, "9094364da19560ed678480a6476e6c1201e4aec3f91e4655779abefd9f88f055"), looks := false }, kinds := [], alts := [], laidByText := true, laidKinds := [.data, .data, .data, .data, .data, .pinned], laidTests := true, laidLooks := .later }
def AcceptThousandthsUptoCardSaid : Prop := Claim7.holds Tryd.pinned (.plain (OpenSpec.upto acceptThousandthsSpec)) acceptThousandthsUptoCard
end Rows
end Go.Proofs.YthnniiakmjonjaaDoor
