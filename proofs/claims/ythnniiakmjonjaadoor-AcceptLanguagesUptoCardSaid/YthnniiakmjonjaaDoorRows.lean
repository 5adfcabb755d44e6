/-
  NARROWER THAN 'FOR EVERY INPUT', by the rows' own cells (each row's printed sentence says how): AcceptParses: laid · AcceptQualities: laid · AcceptMeets: laid · AcceptCodings: laid · AcceptPrints: laid · AcceptLikes: laid · AcceptRanges: laid · AcceptWeights: laid · AcceptChooses: laid · AcceptBest: laid · AcceptMemory: laid · AcceptTold: laid · AcceptLanguages: laid · AcceptThousandths: laid.
  DERIVED. THE GIVEN ROWS OF THIS SEAT. 14 by the template 'for every input the law returns true; each argument reads behind the call as it read before'; 0 by the template 'total and deterministic' (their statements: YthnniiakmjonjaaDoorTotals.lean).
  GIVEN WITH THE SEED: the statements are not yours to turn. If you find one false, say at which input.
  Laid BY PROGRAM, IN A SANDBOX (cutbox-rows.mjs): the forced cells as the released guide's own fill.sh prints them over the translation 157e811fe673a70a… (all of the seat's roots in one cut). By AI agents, Wed Nov 11 2026. No macro, syntax, notation, axiom, sorry.
-/
import Derived.Test.YthnniiakmjonjaaDoorChecked
import GoSem.PinnedTables
import GoSem.Claim
import GoSem.ClaimJoined
import GoSem.ClaimMapViews
import Derived.JoinedTies
import Derived.KernelRfl
namespace Go.Proofs.YthnniiakmjonjaaDoor
/- THE CELL 'sum', in the pinned program and in every row, IS THE sha256 OF THE DUMP (.gsa) THAT YthnniiakmjonjaaDoorProg.lean LOADS. Nothing in Lean hashes anything: it is a label: what it is worth is what the hold of that sum in a sandbox is worth. -/
noncomputable def Tryd.pinned : Pinned := { name := "ythnniiakmjonjaadoor", sum := "157e811fe673a70afb112b2f88a6e0adb37183600fd6af668b12f9ccad403d5d", checked := Tryd.checked }
namespace Rows
def none {H : Type} : Left H := { results := [], args := [] }

/- WHAT THE LISTED PACKAGE-LEVEL VARIABLES READ AS WHEN THE CALL BEGINS. Each datum BY PROGRAM (the guide's laid-datum.mjs) off the statement by which the dump's own 'gosem.cut.vars' lays the variable. In a bare row this is a premise. The card (YthnniiakmjonjaaDoorCards.lean) ties it to the program's text. -/
def laid_unicode_utf8_acceptRanges {H : Type} : DataW H := .agg [.agg [.lit (.int .u8 128), .lit (.int .u8 191)], .agg [.lit (.int .u8 160), .lit (.int .u8 191)], .agg [.lit (.int .u8 128), .lit (.int .u8 159)], .agg [.lit (.int .u8 144), .lit (.int .u8 191)], .agg [.lit (.int .u8 128), .lit (.int .u8 143)], .agg [.lit (.int .u8 0), .lit (.int .u8 0)], .agg [.lit (.int .u8 0), .lit (.int .u8 0)], .agg [.lit (.int .u8 0), .lit (.int .u8 0)], .agg [.lit (.int .u8 0), .lit (.int .u8 0)], .agg [.lit (.int .u8 0), .lit (.int .u8 0)], .agg [.lit (.int .u8 0), .lit (.int .u8 0)], .agg [.lit (.int .u8 0), .lit (.int .u8 0)], .agg [.lit (.int .u8 0), .lit (.int .u8 0)], .agg [.lit (.int .u8 0), .lit (.int .u8 0)], .agg [.lit (.int .u8 0), .lit (.int .u8 0)], .agg [.lit (.int .u8 0), .lit (.int .u8 0)]]
def laid_turnpike_octet_signs {H : Type} : DataW H := .agg [.lit (.int .u32 0), .lit (.int .u32 67071226), .lit (.int .u32 3355443198), .lit (.int .u32 1476395007)]
/-- One of Go's own tables, pinned by name: the form's constant. -/
def laid_unicode_utf8_first : DataW Unit := Go.Pinned.utf8First
def laid_math_bits_deBruijn32tab {H : Type} : DataW H := .agg [.lit (.int .u8 0), .lit (.int .u8 1), .lit (.int .u8 28), .lit (.int .u8 2), .lit (.int .u8 29), .lit (.int .u8 14), .lit (.int .u8 24), .lit (.int .u8 3), .lit (.int .u8 30), .lit (.int .u8 22), .lit (.int .u8 20), .lit (.int .u8 15), .lit (.int .u8 25), .lit (.int .u8 17), .lit (.int .u8 4), .lit (.int .u8 8), .lit (.int .u8 31), .lit (.int .u8 27), .lit (.int .u8 13), .lit (.int .u8 23), .lit (.int .u8 21), .lit (.int .u8 19), .lit (.int .u8 16), .lit (.int .u8 7), .lit (.int .u8 26), .lit (.int .u8 12), .lit (.int .u8 18), .lit (.int .u8 6), .lit (.int .u8 11), .lit (.int .u8 5), .lit (.int .u8 10), .lit (.int .u8 9)]
def laid_math_bits_deBruijn64tab {H : Type} : DataW H := .agg [.lit (.int .u8 0), .lit (.int .u8 1), .lit (.int .u8 56), .lit (.int .u8 2), .lit (.int .u8 57), .lit (.int .u8 49), .lit (.int .u8 28), .lit (.int .u8 3), .lit (.int .u8 61), .lit (.int .u8 58), .lit (.int .u8 42), .lit (.int .u8 50), .lit (.int .u8 38), .lit (.int .u8 29), .lit (.int .u8 17), .lit (.int .u8 4), .lit (.int .u8 62), .lit (.int .u8 47), .lit (.int .u8 59), .lit (.int .u8 36), .lit (.int .u8 45), .lit (.int .u8 43), .lit (.int .u8 51), .lit (.int .u8 22), .lit (.int .u8 53), .lit (.int .u8 39), .lit (.int .u8 33), .lit (.int .u8 30), .lit (.int .u8 24), .lit (.int .u8 18), .lit (.int .u8 12), .lit (.int .u8 5), .lit (.int .u8 63), .lit (.int .u8 55), .lit (.int .u8 48), .lit (.int .u8 27), .lit (.int .u8 60), .lit (.int .u8 41), .lit (.int .u8 37), .lit (.int .u8 16), .lit (.int .u8 46), .lit (.int .u8 35), .lit (.int .u8 44), .lit (.int .u8 21), .lit (.int .u8 52), .lit (.int .u8 32), .lit (.int .u8 23), .lit (.int .u8 11), .lit (.int .u8 54), .lit (.int .u8 26), .lit (.int .u8 40), .lit (.int .u8 15), .lit (.int .u8 34), .lit (.int .u8 20), .lit (.int .u8 31), .lit (.int .u8 10), .lit (.int .u8 25), .lit (.int .u8 14), .lit (.int .u8 19), .lit (.int .u8 9), .lit (.int .u8 13), .lit (.int .u8 8), .lit (.int .u8 7), .lit (.int .u8 6)]
def laid_internal_strconv_uint64pow10 {H : Type} : DataW H := .agg [.lit (.int .u64 1), .lit (.int .u64 10), .lit (.int .u64 100), .lit (.int .u64 1000), .lit (.int .u64 10000), .lit (.int .u64 100000), .lit (.int .u64 1000000), .lit (.int .u64 10000000), .lit (.int .u64 100000000), .lit (.int .u64 1000000000), .lit (.int .u64 10000000000), .lit (.int .u64 100000000000), .lit (.int .u64 1000000000000), .lit (.int .u64 10000000000000), .lit (.int .u64 100000000000000), .lit (.int .u64 1000000000000000), .lit (.int .u64 10000000000000000), .lit (.int .u64 100000000000000000), .lit (.int .u64 1000000000000000000), .lit (.int .u64 10000000000000000000)]

/-- 'turnpikelaw07.AcceptParses': WHATEVER THE INPUT: true; the input reads as it did. -/
def acceptParsesSpec : ChangeSpec := { name := "acceptParses", fn := fun _ => fun
  | [d] => { results := [.lit (.bool true)], args := [d] }
  | _ => none }
def acceptParsesRow : OpenClaim := { program := "ythnniiakmjonjaadoor", sum := "157e811fe673a70afb112b2f88a6e0adb37183600fd6af668b12f9ccad403d5d", func := "turnpike/turnpikelaw07.AcceptParses", spec := "acceptParses", inPlace := ["internal/bytealg.IndexByteString", "internal/bytealg.IndexString", "internal/abi.NoEscape", "internal/bytealg.MakeNoZero"], unfollowed := true, recurses := true, named := ["unicode/utf8.first", "unicode/utf8.acceptRanges", "turnpike/octet.signs", "internal/bytealg.MaxLen"], apart := false, laid := [("unicode/utf8.acceptRanges", laid_unicode_utf8_acceptRanges), ("turnpike/octet.signs", laid_turnpike_octet_signs), ("unicode/utf8.first", laid_unicode_utf8_first)] }
def AcceptParsesSaid : Prop := acceptParsesRow.holds Tryd.pinned (OpenSpec.ofChange acceptParsesSpec)

/-- ITS FALSE NEIGHBOUR: 'it returns false'. Refute it at one input. -/
def acceptParsesWrong : ChangeSpec := { name := "acceptParses", fn := fun _ => fun
  | [d] => { results := [.lit (.bool false)], args := [d] }
  | _ => none }
def AcceptParsesWrongFalsely : Prop := acceptParsesRow.holds Tryd.pinned (OpenSpec.ofChange acceptParsesWrong)

/-- 'turnpikelaw07.AcceptQualities': WHATEVER THE INPUT: true; the input reads as it did. -/
def acceptQualitiesSpec : ChangeSpec := { name := "acceptQualities", fn := fun _ => fun
  | [d] => { results := [.lit (.bool true)], args := [d] }
  | _ => none }
def acceptQualitiesRow : OpenClaim := { program := "ythnniiakmjonjaadoor", sum := "157e811fe673a70afb112b2f88a6e0adb37183600fd6af668b12f9ccad403d5d", func := "turnpike/turnpikelaw07.AcceptQualities", spec := "acceptQualities", inPlace := ["internal/bytealg.IndexByteString", "internal/bytealg.IndexString", "internal/abi.NoEscape", "internal/bytealg.MakeNoZero"], unfollowed := true, recurses := true, named := ["internal/bytealg.MaxLen", "unicode/utf8.first", "unicode/utf8.acceptRanges", "turnpike/octet.signs"], apart := false, laid := [("unicode/utf8.acceptRanges", laid_unicode_utf8_acceptRanges), ("turnpike/octet.signs", laid_turnpike_octet_signs), ("unicode/utf8.first", laid_unicode_utf8_first)] }
def AcceptQualitiesSaid : Prop := acceptQualitiesRow.holds Tryd.pinned (OpenSpec.ofChange acceptQualitiesSpec)

/-- ITS FALSE NEIGHBOUR: 'it returns false'. Refute it at one input. -/
def acceptQualitiesWrong : ChangeSpec := { name := "acceptQualities", fn := fun _ => fun
  | [d] => { results := [.lit (.bool false)], args := [d] }
  | _ => none }
def AcceptQualitiesWrongFalsely : Prop := acceptQualitiesRow.holds Tryd.pinned (OpenSpec.ofChange acceptQualitiesWrong)

/-- 'turnpikelaw07.AcceptMeets': WHATEVER THE INPUT: true; the input reads as it did. -/
def acceptMeetsSpec : ChangeSpec := { name := "acceptMeets", fn := fun _ => fun
  | [d1, d2] => { results := [.lit (.bool true)], args := [d1, d2] }
  | _ => none }
def acceptMeetsRow : OpenClaim := { program := "ythnniiakmjonjaadoor", sum := "157e811fe673a70afb112b2f88a6e0adb37183600fd6af668b12f9ccad403d5d", func := "turnpike/turnpikelaw07.AcceptMeets", spec := "acceptMeets", inPlace := ["internal/bytealg.IndexByteString", "internal/bytealg.IndexString", "internal/abi.NoEscape", "internal/bytealg.MakeNoZero"], unfollowed := true, recurses := true, named := ["internal/bytealg.MaxLen", "unicode/utf8.first", "unicode/utf8.acceptRanges", "turnpike/octet.signs"], apart := false, laid := [("unicode/utf8.acceptRanges", laid_unicode_utf8_acceptRanges), ("turnpike/octet.signs", laid_turnpike_octet_signs), ("unicode/utf8.first", laid_unicode_utf8_first)] }
def AcceptMeetsSaid : Prop := acceptMeetsRow.holds Tryd.pinned (OpenSpec.ofChange acceptMeetsSpec)

/-- ITS FALSE NEIGHBOUR: 'it returns false'. Refute it at one input. -/
def acceptMeetsWrong : ChangeSpec := { name := "acceptMeets", fn := fun _ => fun
  | [d1, d2] => { results := [.lit (.bool false)], args := [d1, d2] }
  | _ => none }
def AcceptMeetsWrongFalsely : Prop := acceptMeetsRow.holds Tryd.pinned (OpenSpec.ofChange acceptMeetsWrong)

/-- 'turnpikelaw07.AcceptCodings': WHATEVER THE INPUT: true; the input reads as it did. -/
def acceptCodingsSpec : ChangeSpec := { name := "acceptCodings", fn := fun _ => fun
  | [d1, d2, d3] => { results := [.lit (.bool true)], args := [d1, d2, d3] }
  | _ => none }
def acceptCodingsRow : OpenClaim := { program := "ythnniiakmjonjaadoor", sum := "157e811fe673a70afb112b2f88a6e0adb37183600fd6af668b12f9ccad403d5d", func := "turnpike/turnpikelaw07.AcceptCodings", spec := "acceptCodings", inPlace := ["internal/bytealg.IndexByteString", "internal/bytealg.IndexString", "internal/abi.NoEscape", "internal/bytealg.MakeNoZero"], unfollowed := true, recurses := true, named := ["internal/bytealg.MaxLen", "unicode/utf8.first", "unicode/utf8.acceptRanges", "turnpike/octet.signs"], apart := false, laid := [("unicode/utf8.acceptRanges", laid_unicode_utf8_acceptRanges), ("turnpike/octet.signs", laid_turnpike_octet_signs), ("unicode/utf8.first", laid_unicode_utf8_first)] }
def AcceptCodingsSaid : Prop := acceptCodingsRow.holds Tryd.pinned (OpenSpec.ofChange acceptCodingsSpec)

/-- ITS FALSE NEIGHBOUR: 'it returns false'. Refute it at one input. -/
def acceptCodingsWrong : ChangeSpec := { name := "acceptCodings", fn := fun _ => fun
  | [d1, d2, d3] => { results := [.lit (.bool false)], args := [d1, d2, d3] }
  | _ => none }
def AcceptCodingsWrongFalsely : Prop := acceptCodingsRow.holds Tryd.pinned (OpenSpec.ofChange acceptCodingsWrong)

/-- 'turnpikelaw07.AcceptPrints': WHATEVER THE INPUT: true; the input reads as it did. -/
def acceptPrintsSpec : ChangeSpec := { name := "acceptPrints", fn := fun _ => fun
  | [d] => { results := [.lit (.bool true)], args := [d] }
  | _ => none }
def acceptPrintsRow : OpenClaim := { program := "ythnniiakmjonjaadoor", sum := "157e811fe673a70afb112b2f88a6e0adb37183600fd6af668b12f9ccad403d5d", func := "turnpike/turnpikelaw07.AcceptPrints", spec := "acceptPrints", inPlace := ["internal/abi.NoEscape", "internal/bytealg.IndexByteString", "internal/bytealg.IndexString", "internal/bytealg.MakeNoZero"], unfollowed := true, recurses := true, named := ["turnpike/octet.signs", "internal/bytealg.MaxLen", "unicode/utf8.first", "unicode/utf8.acceptRanges"], apart := false, laid := [("unicode/utf8.acceptRanges", laid_unicode_utf8_acceptRanges), ("turnpike/octet.signs", laid_turnpike_octet_signs), ("unicode/utf8.first", laid_unicode_utf8_first)] }
def AcceptPrintsSaid : Prop := acceptPrintsRow.holds Tryd.pinned (OpenSpec.ofChange acceptPrintsSpec)

/-- ITS FALSE NEIGHBOUR: 'it returns false'. Refute it at one input. -/
def acceptPrintsWrong : ChangeSpec := { name := "acceptPrints", fn := fun _ => fun
  | [d] => { results := [.lit (.bool false)], args := [d] }
  | _ => none }
def AcceptPrintsWrongFalsely : Prop := acceptPrintsRow.holds Tryd.pinned (OpenSpec.ofChange acceptPrintsWrong)

/-- 'turnpikelaw07.AcceptLikes': WHATEVER THE INPUT: true; the input reads as it did. -/
def acceptLikesSpec : ChangeSpec := { name := "acceptLikes", fn := fun _ => fun
  | [d1, d2] => { results := [.lit (.bool true)], args := [d1, d2] }
  | _ => none }
def acceptLikesRow : OpenClaim := { program := "ythnniiakmjonjaadoor", sum := "157e811fe673a70afb112b2f88a6e0adb37183600fd6af668b12f9ccad403d5d", func := "turnpike/turnpikelaw07.AcceptLikes", spec := "acceptLikes", inPlace := ["internal/bytealg.IndexByteString", "internal/bytealg.IndexString", "internal/abi.NoEscape", "internal/bytealg.MakeNoZero"], unfollowed := true, recurses := true, named := ["internal/bytealg.MaxLen", "unicode/utf8.first", "unicode/utf8.acceptRanges", "turnpike/octet.signs"], apart := false, laid := [("unicode/utf8.acceptRanges", laid_unicode_utf8_acceptRanges), ("turnpike/octet.signs", laid_turnpike_octet_signs), ("unicode/utf8.first", laid_unicode_utf8_first)] }
def AcceptLikesSaid : Prop := acceptLikesRow.holds Tryd.pinned (OpenSpec.ofChange acceptLikesSpec)

/-- ITS FALSE NEIGHBOUR: 'it returns false'. Refute it at one input. -/
def acceptLikesWrong : ChangeSpec := { name := "acceptLikes", fn := fun _ => fun
  | [d1, d2] => { results := [.lit (.bool false)], args := [d1, d2] }
  | _ => none }
def AcceptLikesWrongFalsely : Prop := acceptLikesRow.holds Tryd.pinned (OpenSpec.ofChange acceptLikesWrong)

/-- 'turnpikelaw07.AcceptRanges': WHATEVER THE INPUT: true; the input reads as it did. -/
def acceptRangesSpec : ChangeSpec := { name := "acceptRanges", fn := fun _ => fun
  | [d] => { results := [.lit (.bool true)], args := [d] }
  | _ => none }
def acceptRangesRow : OpenClaim := { program := "ythnniiakmjonjaadoor", sum := "157e811fe673a70afb112b2f88a6e0adb37183600fd6af668b12f9ccad403d5d", func := "turnpike/turnpikelaw07.AcceptRanges", spec := "acceptRanges", inPlace := ["internal/abi.NoEscape", "internal/bytealg.IndexByteString", "internal/bytealg.IndexString", "internal/bytealg.MakeNoZero"], unfollowed := true, recurses := true, named := ["unicode/utf8.first", "unicode/utf8.acceptRanges", "turnpike/octet.signs", "internal/bytealg.MaxLen"], apart := false, laid := [("unicode/utf8.acceptRanges", laid_unicode_utf8_acceptRanges), ("turnpike/octet.signs", laid_turnpike_octet_signs), ("unicode/utf8.first", laid_unicode_utf8_first)] }
def AcceptRangesSaid : Prop := acceptRangesRow.holds Tryd.pinned (OpenSpec.ofChange acceptRangesSpec)

/-- ITS FALSE NEIGHBOUR: 'it returns false'. Refute it at one input. -/
def acceptRangesWrong : ChangeSpec := { name := "acceptRanges", fn := fun _ => fun
  | [d] => { results := [.lit (.bool false)], args := [d] }
  | _ => none }
def AcceptRangesWrongFalsely : Prop := acceptRangesRow.holds Tryd.pinned (OpenSpec.ofChange acceptRangesWrong)

/-- 'turnpikelaw07.AcceptWeights': WHATEVER THE INPUT: true; the input reads as it did. -/
def acceptWeightsSpec : ChangeSpec := { name := "acceptWeights", fn := fun _ => fun
  | [d] => { results := [.lit (.bool true)], args := [d] }
  | _ => none }
def acceptWeightsRow : OpenClaim := { program := "ythnniiakmjonjaadoor", sum := "157e811fe673a70afb112b2f88a6e0adb37183600fd6af668b12f9ccad403d5d", func := "turnpike/turnpikelaw07.AcceptWeights", spec := "acceptWeights", inPlace := ["internal/abi.NoEscape", "internal/bytealg.IndexByteString", "internal/bytealg.IndexString", "internal/bytealg.MakeNoZero"], unfollowed := true, recurses := true, named := ["unicode/utf8.first", "unicode/utf8.acceptRanges", "turnpike/octet.signs", "internal/bytealg.MaxLen"], apart := false, laid := [("unicode/utf8.acceptRanges", laid_unicode_utf8_acceptRanges), ("turnpike/octet.signs", laid_turnpike_octet_signs), ("unicode/utf8.first", laid_unicode_utf8_first)] }
def AcceptWeightsSaid : Prop := acceptWeightsRow.holds Tryd.pinned (OpenSpec.ofChange acceptWeightsSpec)

/-- ITS FALSE NEIGHBOUR: 'it returns false'. Refute it at one input. -/
def acceptWeightsWrong : ChangeSpec := { name := "acceptWeights", fn := fun _ => fun
  | [d] => { results := [.lit (.bool false)], args := [d] }
  | _ => none }
def AcceptWeightsWrongFalsely : Prop := acceptWeightsRow.holds Tryd.pinned (OpenSpec.ofChange acceptWeightsWrong)

/-- 'turnpikelaw07.AcceptChooses': WHATEVER THE INPUT: true; the input reads as it did. -/
def acceptChoosesSpec : ChangeSpec := { name := "acceptChooses", fn := fun _ => fun
  | [d1, d2] => { results := [.lit (.bool true)], args := [d1, d2] }
  | _ => none }
def acceptChoosesRow : OpenClaim := { program := "ythnniiakmjonjaadoor", sum := "157e811fe673a70afb112b2f88a6e0adb37183600fd6af668b12f9ccad403d5d", func := "turnpike/turnpikelaw07.AcceptChooses", spec := "acceptChooses", inPlace := ["internal/bytealg.IndexByteString", "internal/bytealg.IndexString", "internal/abi.NoEscape", "internal/bytealg.MakeNoZero"], unfollowed := true, recurses := true, named := ["internal/bytealg.MaxLen", "unicode/utf8.first", "unicode/utf8.acceptRanges", "turnpike/octet.signs"], apart := false, laid := [("unicode/utf8.acceptRanges", laid_unicode_utf8_acceptRanges), ("turnpike/octet.signs", laid_turnpike_octet_signs), ("unicode/utf8.first", laid_unicode_utf8_first)] }
def AcceptChoosesSaid : Prop := acceptChoosesRow.holds Tryd.pinned (OpenSpec.ofChange acceptChoosesSpec)

/-- ITS FALSE NEIGHBOUR: 'it returns false'. Refute it at one input. -/
def acceptChoosesWrong : ChangeSpec := { name := "acceptChooses", fn := fun _ => fun
  | [d1, d2] => { results := [.lit (.bool false)], args := [d1, d2] }
  | _ => none }
def AcceptChoosesWrongFalsely : Prop := acceptChoosesRow.holds Tryd.pinned (OpenSpec.ofChange acceptChoosesWrong)

/-- 'turnpikelaw07.AcceptBest': WHATEVER THE INPUT: true; the input reads as it did. -/
def acceptBestSpec : ChangeSpec := { name := "acceptBest", fn := fun _ => fun
  | [d1, d2] => { results := [.lit (.bool true)], args := [d1, d2] }
  | _ => none }
def acceptBestRow : OpenClaim := { program := "ythnniiakmjonjaadoor", sum := "157e811fe673a70afb112b2f88a6e0adb37183600fd6af668b12f9ccad403d5d", func := "turnpike/turnpikelaw07.AcceptBest", spec := "acceptBest", inPlace := ["internal/bytealg.IndexByteString", "internal/bytealg.IndexString", "internal/abi.NoEscape", "internal/bytealg.MakeNoZero"], unfollowed := true, recurses := true, named := ["internal/bytealg.MaxLen", "unicode/utf8.first", "unicode/utf8.acceptRanges", "turnpike/octet.signs"], apart := false, laid := [("unicode/utf8.acceptRanges", laid_unicode_utf8_acceptRanges), ("turnpike/octet.signs", laid_turnpike_octet_signs), ("unicode/utf8.first", laid_unicode_utf8_first)] }
def AcceptBestSaid : Prop := acceptBestRow.holds Tryd.pinned (OpenSpec.ofChange acceptBestSpec)

/-- ITS FALSE NEIGHBOUR: 'it returns false'. Refute it at one input. -/
def acceptBestWrong : ChangeSpec := { name := "acceptBest", fn := fun _ => fun
  | [d1, d2] => { results := [.lit (.bool false)], args := [d1, d2] }
  | _ => none }
def AcceptBestWrongFalsely : Prop := acceptBestRow.holds Tryd.pinned (OpenSpec.ofChange acceptBestWrong)

/-- 'turnpikelaw07.AcceptMemory': WHATEVER THE INPUT: true; the input reads as it did. -/
def acceptMemorySpec : ChangeSpec := { name := "acceptMemory", fn := fun _ => fun
  | [d1, d2, d3] => { results := [.lit (.bool true)], args := [d1, d2, d3] }
  | _ => none }
def acceptMemoryRow : OpenClaim := { program := "ythnniiakmjonjaadoor", sum := "157e811fe673a70afb112b2f88a6e0adb37183600fd6af668b12f9ccad403d5d", func := "turnpike/turnpikelaw07.AcceptMemory", spec := "acceptMemory", inPlace := ["internal/bytealg.IndexByteString", "internal/bytealg.IndexString", "internal/abi.NoEscape", "internal/bytealg.MakeNoZero"], unfollowed := true, recurses := true, named := ["unicode/utf8.first", "unicode/utf8.acceptRanges", "turnpike/octet.signs", "internal/bytealg.MaxLen"], apart := false, laid := [("unicode/utf8.acceptRanges", laid_unicode_utf8_acceptRanges), ("turnpike/octet.signs", laid_turnpike_octet_signs), ("unicode/utf8.first", laid_unicode_utf8_first)] }
def AcceptMemorySaid : Prop := acceptMemoryRow.holds Tryd.pinned (OpenSpec.ofChange acceptMemorySpec)

/-- ITS FALSE NEIGHBOUR: 'it returns false'. Refute it at one input. -/
def acceptMemoryWrong : ChangeSpec := { name := "acceptMemory", fn := fun _ => fun
  | [d1, d2, d3] => { results := [.lit (.bool false)], args := [d1, d2, d3] }
  | _ => none }
def AcceptMemoryWrongFalsely : Prop := acceptMemoryRow.holds Tryd.pinned (OpenSpec.ofChange acceptMemoryWrong)

/-- 'turnpikelaw07.AcceptTold': WHATEVER THE INPUT: true; the input reads as it did. -/
def acceptToldSpec : ChangeSpec := { name := "acceptTold", fn := fun _ => fun
  | [d1, d2] => { results := [.lit (.bool true)], args := [d1, d2] }
  | _ => none }
def acceptToldRow : OpenClaim := { program := "ythnniiakmjonjaadoor", sum := "157e811fe673a70afb112b2f88a6e0adb37183600fd6af668b12f9ccad403d5d", func := "turnpike/turnpikelaw07.AcceptTold", spec := "acceptTold", inPlace := ["internal/abi.NoEscape", "internal/bytealg.IndexByteString", "internal/bytealg.IndexString", "internal/bytealg.MakeNoZero"], unfollowed := true, recurses := true, named := ["unicode/utf8.first", "unicode/utf8.acceptRanges", "turnpike/octet.signs", "internal/bytealg.MaxLen"], apart := false, laid := [("unicode/utf8.acceptRanges", laid_unicode_utf8_acceptRanges), ("turnpike/octet.signs", laid_turnpike_octet_signs), ("unicode/utf8.first", laid_unicode_utf8_first)] }
def AcceptToldSaid : Prop := acceptToldRow.holds Tryd.pinned (OpenSpec.ofChange acceptToldSpec)

/-- ITS FALSE NEIGHBOUR: 'it returns false'. Refute it at one input. -/
def acceptToldWrong : ChangeSpec := { name := "acceptTold", fn := fun _ => fun
  | [d1, d2] => { results := [.lit (.bool false)], args := [d1, d2] }
  | _ => none }
def AcceptToldWrongFalsely : Prop := acceptToldRow.holds Tryd.pinned (OpenSpec.ofChange acceptToldWrong)

/-- 'turnpikelaw07.AcceptLanguages': WHATEVER THE INPUT: true; the input reads as it did. -/
def acceptLanguagesSpec : ChangeSpec := { name := "acceptLanguages", fn := fun _ => fun
  | [d1, d2] => { results := [.lit (.bool true)], args := [d1, d2] }
  | _ => none }
def acceptLanguagesRow : OpenClaim := { program := "ythnniiakmjonjaadoor", sum := "157e811fe673a70afb112b2f88a6e0adb37183600fd6af668b12f9ccad403d5d", func := "turnpike/turnpikelaw07.AcceptLanguages", spec := "acceptLanguages", inPlace := ["internal/bytealg.IndexByteString", "internal/bytealg.IndexString", "internal/abi.NoEscape", "internal/bytealg.MakeNoZero", "internal/bytealg.CountString"], unfollowed := true, recurses := true, named := ["internal/bytealg.MaxLen", "unicode/utf8.first", "unicode/utf8.acceptRanges", "turnpike/octet.signs"], apart := false, laid := [("unicode/utf8.acceptRanges", laid_unicode_utf8_acceptRanges), ("turnpike/octet.signs", laid_turnpike_octet_signs), ("unicode/utf8.first", laid_unicode_utf8_first)] }
def AcceptLanguagesSaid : Prop := acceptLanguagesRow.holds Tryd.pinned (OpenSpec.ofChange acceptLanguagesSpec)

/-- ITS FALSE NEIGHBOUR: 'it returns false'. Refute it at one input. -/
def acceptLanguagesWrong : ChangeSpec := { name := "acceptLanguages", fn := fun _ => fun
  | [d1, d2] => { results := [.lit (.bool false)], args := [d1, d2] }
  | _ => none }
def AcceptLanguagesWrongFalsely : Prop := acceptLanguagesRow.holds Tryd.pinned (OpenSpec.ofChange acceptLanguagesWrong)

/-- 'turnpikelaw07.AcceptThousandths': WHATEVER THE INPUT: true; the input reads as it did. -/
def acceptThousandthsSpec : ChangeSpec := { name := "acceptThousandths", fn := fun _ => fun
  | [d] => { results := [.lit (.bool true)], args := [d] }
  | _ => none }
def acceptThousandthsRow : OpenClaim := { program := "ythnniiakmjonjaadoor", sum := "157e811fe673a70afb112b2f88a6e0adb37183600fd6af668b12f9ccad403d5d", func := "turnpike/turnpikelaw07.AcceptThousandths", spec := "acceptThousandths", inPlace := ["internal/bytealg.IndexByteString", "internal/bytealg.IndexString", "internal/abi.NoEscape", "internal/bytealg.MakeNoZero"], unfollowed := true, recurses := true, named := ["internal/strconv.uint64pow10", "math/bits.deBruijn32tab", "math/bits.deBruijn64tab", "unicode/utf8.first", "unicode/utf8.acceptRanges", "internal/bytealg.MaxLen", "turnpike/octet.signs"], apart := false, laid := [("math/bits.deBruijn32tab", laid_math_bits_deBruijn32tab), ("math/bits.deBruijn64tab", laid_math_bits_deBruijn64tab), ("internal/strconv.uint64pow10", laid_internal_strconv_uint64pow10), ("unicode/utf8.acceptRanges", laid_unicode_utf8_acceptRanges), ("turnpike/octet.signs", laid_turnpike_octet_signs), ("unicode/utf8.first", laid_unicode_utf8_first)] }
def AcceptThousandthsSaid : Prop := acceptThousandthsRow.holds Tryd.pinned (OpenSpec.ofChange acceptThousandthsSpec)

/-- ITS FALSE NEIGHBOUR: 'it returns false'. Refute it at one input. -/
def acceptThousandthsWrong : ChangeSpec := { name := "acceptThousandths", fn := fun _ => fun
  | [d] => { results := [.lit (.bool false)], args := [d] }
  | _ => none }
def AcceptThousandthsWrongFalsely : Prop := acceptThousandthsRow.holds Tryd.pinned (OpenSpec.ofChange acceptThousandthsWrong)

/- THE SECOND FORM. 'bulk': how many values and letters a reading holds, each counted each time it is reached (what is shared counts as often as it is met; a slice's spare places count too). A statement '..UptoSaid' is the law's where the arguments, and the package variables that the reading takes, are together of bulk at most 1048576: NARROWER than '..Said'. Prove '..Said' where nothing that the law and all that it calls make is longer than what came in: it says more and counts as full. Else prove '..UptoSaid'. A law counts once. -/
mutual
def uptoBulk {H : Type} : DataW H → Nat
  | .lit (.string bytes) => bytes.length + 1
  | .lit _ => 1
  | .nil => 1
  | .ptr d => uptoBulk d + 1
  | .slice elems spare => uptoBulkAll elems + uptoBulkAll spare + 1
  | .agg parts => uptoBulkAll parts + 1
  | .iface _ d => uptoBulk d + 1
  | .map entries => uptoBulkEntries entries + 1
  | .held _ => 1
def uptoBulkAll {H : Type} : List (DataW H) → Nat
  | [] => 0
  | d :: r => uptoBulk d + uptoBulkAll r
def uptoBulkEntries {H : Type} : List (Lit × DataW H) → Nat
  | [] => 0
  | x :: r => uptoBulkEntry x + uptoBulkEntries r
def uptoBulkEntry {H : Type} : Lit × DataW H → Nat
  | (.string bytes, d) => bytes.length + uptoBulk d + 1
  | (_, d) => uptoBulk d + 1
 end
def uptoSmall : (H : Type) → List (DataW H) → Bool := fun _ ds => decide (uptoBulkAll ds ≤ 1048576)
def OpenSpec.upto (s : _root_.Go.ChangeSpec) : _root_.Go.OpenSpec := { _root_.Go.OpenSpec.ofChange s with cond := some uptoSmall }

/-- 'turnpikelaw07.AcceptParses', WHERE WHAT IT READS IS OF BULK AT MOST 1048576: true; the input reads as it did. -/
def acceptParsesUptoRow : OpenClaim := { program := "ythnniiakmjonjaadoor", sum := "157e811fe673a70afb112b2f88a6e0adb37183600fd6af668b12f9ccad403d5d", func := "turnpike/turnpikelaw07.AcceptParses", spec := "acceptParses", inPlace := ["internal/bytealg.IndexByteString", "internal/bytealg.IndexString", "internal/abi.NoEscape", "internal/bytealg.MakeNoZero"], unfollowed := true, recurses := true, named := ["unicode/utf8.first", "unicode/utf8.acceptRanges", "turnpike/octet.signs", "internal/bytealg.MaxLen"], apart := false, laid := [("unicode/utf8.acceptRanges", laid_unicode_utf8_acceptRanges), ("turnpike/octet.signs", laid_turnpike_octet_signs), ("unicode/utf8.first", laid_unicode_utf8_first)], narrowed := true }
def AcceptParsesUptoSaid : Prop := acceptParsesUptoRow.holds Tryd.pinned (OpenSpec.upto acceptParsesSpec)

/-- 'turnpikelaw07.AcceptQualities', WHERE WHAT IT READS IS OF BULK AT MOST 1048576: true; the input reads as it did. -/
def acceptQualitiesUptoRow : OpenClaim := { program := "ythnniiakmjonjaadoor", sum := "157e811fe673a70afb112b2f88a6e0adb37183600fd6af668b12f9ccad403d5d", func := "turnpike/turnpikelaw07.AcceptQualities", spec := "acceptQualities", inPlace := ["internal/bytealg.IndexByteString", "internal/bytealg.IndexString", "internal/abi.NoEscape", "internal/bytealg.MakeNoZero"], unfollowed := true, recurses := true, named := ["internal/bytealg.MaxLen", "unicode/utf8.first", "unicode/utf8.acceptRanges", "turnpike/octet.signs"], apart := false, laid := [("unicode/utf8.acceptRanges", laid_unicode_utf8_acceptRanges), ("turnpike/octet.signs", laid_turnpike_octet_signs), ("unicode/utf8.first", laid_unicode_utf8_first)], narrowed := true }
def AcceptQualitiesUptoSaid : Prop := acceptQualitiesUptoRow.holds Tryd.pinned (OpenSpec.upto acceptQualitiesSpec)

/-- 'turnpikelaw07.AcceptMeets', WHERE WHAT IT READS IS OF BULK AT MOST 1048576: true; the input reads as it did. -/
def acceptMeetsUptoRow : OpenClaim := { program := "ythnniiakmjonjaadoor", sum := "157e811fe673a70afb112b2f88a6e0adb37183600fd6af668b12f9ccad403d5d", func := "turnpike/turnpikelaw07.AcceptMeets", spec := "acceptMeets", inPlace := ["internal/bytealg.IndexByteString", "internal/bytealg.IndexString", "internal/abi.NoEscape", "internal/bytealg.MakeNoZero"], unfollowed := true, recurses := true, named := ["internal/bytealg.MaxLen", "unicode/utf8.first", "unicode/utf8.acceptRanges", "turnpike/octet.signs"], apart := false, laid := [("unicode/utf8.acceptRanges", laid_unicode_utf8_acceptRanges), ("turnpike/octet.signs", laid_turnpike_octet_signs), ("unicode/utf8.first", laid_unicode_utf8_first)], narrowed := true }
def AcceptMeetsUptoSaid : Prop := acceptMeetsUptoRow.holds Tryd.pinned (OpenSpec.upto acceptMeetsSpec)

/-- 'turnpikelaw07.AcceptCodings', WHERE WHAT IT READS IS OF BULK AT MOST 1048576: true; the input reads as it did. -/
def acceptCodingsUptoRow : OpenClaim := { program := "ythnniiakmjonjaadoor", sum := "157e811fe673a70afb112b2f88a6e0adb37183600fd6af668b12f9ccad403d5d", func := "turnpike/turnpikelaw07.AcceptCodings", spec := "acceptCodings", inPlace := ["internal/bytealg.IndexByteString", "internal/bytealg.IndexString", "internal/abi.NoEscape", "internal/bytealg.MakeNoZero"], unfollowed := true, recurses := true, named := ["internal/bytealg.MaxLen", "unicode/utf8.first", "unicode/utf8.acceptRanges", "turnpike/octet.signs"], apart := false, laid := [("unicode/utf8.acceptRanges", laid_unicode_utf8_acceptRanges), ("turnpike/octet.signs", laid_turnpike_octet_signs), ("unicode/utf8.first", laid_unicode_utf8_first)], narrowed := true }
def AcceptCodingsUptoSaid : Prop := acceptCodingsUptoRow.holds Tryd.pinned (OpenSpec.upto acceptCodingsSpec)

/-- 'turnpikelaw07.AcceptPrints', WHERE WHAT IT READS IS OF BULK AT MOST 1048576: true; the input reads as it did. -/
def acceptPrintsUptoRow : OpenClaim := { program := "ythnniiakmjonjaadoor", sum := "157e811fe673a70afb112b2f88a6e0adb37183600fd6af668b12f9ccad403d5d", func := "turnpike/turnpikelaw07.AcceptPrints", spec := "acceptPrints", inPlace := ["internal/abi.NoEscape", "internal/bytealg.IndexByteString", "internal/bytealg.IndexString", "internal/bytealg.MakeNoZero"], unfollowed := true, recurses := true, named := ["turnpike/octet.signs", "internal/bytealg.MaxLen", "unicode/utf8.first", "unicode/utf8.acceptRanges"], apart := false, laid := [("unicode/utf8.acceptRanges", laid_unicode_utf8_acceptRanges), ("turnpike/octet.signs", laid_turnpike_octet_signs), ("unicode/utf8.first", laid_unicode_utf8_first)], narrowed := true }
def AcceptPrintsUptoSaid : Prop := acceptPrintsUptoRow.holds Tryd.pinned (OpenSpec.upto acceptPrintsSpec)

/-- 'turnpikelaw07.AcceptLikes', WHERE WHAT IT READS IS OF BULK AT MOST 1048576: true; the input reads as it did. -/
def acceptLikesUptoRow : OpenClaim := { program := "ythnniiakmjonjaadoor", sum := "157e811fe673a70afb112b2f88a6e0adb37183600fd6af668b12f9ccad403d5d", func := "turnpike/turnpikelaw07.AcceptLikes", spec := "acceptLikes", inPlace := ["internal/bytealg.IndexByteString", "internal/bytealg.IndexString", "internal/abi.NoEscape", "internal/bytealg.MakeNoZero"], unfollowed := true, recurses := true, named := ["internal/bytealg.MaxLen", "unicode/utf8.first", "unicode/utf8.acceptRanges", "turnpike/octet.signs"], apart := false, laid := [("unicode/utf8.acceptRanges", laid_unicode_utf8_acceptRanges), ("turnpike/octet.signs", laid_turnpike_octet_signs), ("unicode/utf8.first", laid_unicode_utf8_first)], narrowed := true }
def AcceptLikesUptoSaid : Prop := acceptLikesUptoRow.holds Tryd.pinned (OpenSpec.upto acceptLikesSpec)

/-- 'turnpikelaw07.AcceptRanges', WHERE WHAT IT READS IS OF BULK AT MOST 1048576: true; the input reads as it did. -/
def acceptRangesUptoRow : OpenClaim := { program := "ythnniiakmjonjaadoor", sum := "157e811fe673a70afb112b2f88a6e0adb37183600fd6af668b12f9ccad403d5d", func := "turnpike/turnpikelaw07.AcceptRanges", spec := "acceptRanges", inPlace := ["internal/abi.NoEscape", "internal/bytealg.IndexByteString", "internal/bytealg.IndexString", "internal/bytealg.MakeNoZero"], unfollowed := true, recurses := true, named := ["unicode/utf8.first", "unicode/utf8.acceptRanges", "turnpike/octet.signs", "internal/bytealg.MaxLen"], apart := false, laid := [("unicode/utf8.acceptRanges", laid_unicode_utf8_acceptRanges), ("turnpike/octet.signs", laid_turnpike_octet_signs), ("unicode/utf8.first", laid_unicode_utf8_first)], narrowed := true }
def AcceptRangesUptoSaid : Prop := acceptRangesUptoRow.holds Tryd.pinned (OpenSpec.upto acceptRangesSpec)

/-- 'turnpikelaw07.AcceptWeights', WHERE WHAT IT READS IS OF BULK AT MOST 1048576: true; the input reads as it did. -/
def acceptWeightsUptoRow : OpenClaim := { program := "ythnniiakmjonjaadoor", sum := "157e811fe673a70afb112b2f88a6e0adb37183600fd6af668b12f9ccad403d5d", func := "turnpike/turnpikelaw07.AcceptWeights", spec := "acceptWeights", inPlace := ["internal/abi.NoEscape", "internal/bytealg.IndexByteString", "internal/bytealg.IndexString", "internal/bytealg.MakeNoZero"], unfollowed := true, recurses := true, named := ["unicode/utf8.first", "unicode/utf8.acceptRanges", "turnpike/octet.signs", "internal/bytealg.MaxLen"], apart := false, laid := [("unicode/utf8.acceptRanges", laid_unicode_utf8_acceptRanges), ("turnpike/octet.signs", laid_turnpike_octet_signs), ("unicode/utf8.first", laid_unicode_utf8_first)], narrowed := true }
def AcceptWeightsUptoSaid : Prop := acceptWeightsUptoRow.holds Tryd.pinned (OpenSpec.upto acceptWeightsSpec)

/-- 'turnpikelaw07.AcceptChooses', WHERE WHAT IT READS IS OF BULK AT MOST 1048576: true; the input reads as it did. -/
def acceptChoosesUptoRow : OpenClaim := { program := "ythnniiakmjonjaadoor", sum := "157e811fe673a70afb112b2f88a6e0adb37183600fd6af668b12f9ccad403d5d", func := "turnpike/turnpikelaw07.AcceptChooses", spec := "acceptChooses", inPlace := ["internal/bytealg.IndexByteString", "internal/bytealg.IndexString", "internal/abi.NoEscape", "internal/bytealg.MakeNoZero"], unfollowed := true, recurses := true, named := ["internal/bytealg.MaxLen", "unicode/utf8.first", "unicode/utf8.acceptRanges", "turnpike/octet.signs"], apart := false, laid := [("unicode/utf8.acceptRanges", laid_unicode_utf8_acceptRanges), ("turnpike/octet.signs", laid_turnpike_octet_signs), ("unicode/utf8.first", laid_unicode_utf8_first)], narrowed := true }
def AcceptChoosesUptoSaid : Prop := acceptChoosesUptoRow.holds Tryd.pinned (OpenSpec.upto acceptChoosesSpec)

/-- 'turnpikelaw07.AcceptBest', WHERE WHAT IT READS IS OF BULK AT MOST 1048576: true; the input reads as it did. -/
def acceptBestUptoRow : OpenClaim := { program := "ythnniiakmjonjaadoor", sum := "157e811fe673a70afb112b2f88a6e0adb37183600fd6af668b12f9ccad403d5d", func := "turnpike/turnpikelaw07.AcceptBest", spec := "acceptBest", inPlace := ["internal/bytealg.IndexByteString", "internal/bytealg.IndexString", "internal/abi.NoEscape", "internal/bytealg.MakeNoZero"], unfollowed := true, recurses := true, named := ["internal/bytealg.MaxLen", "unicode/utf8.first", "unicode/utf8.acceptRanges", "turnpike/octet.signs"], apart := false, laid := [("unicode/utf8.acceptRanges", laid_unicode_utf8_acceptRanges), ("turnpike/octet.signs", laid_turnpike_octet_signs), ("unicode/utf8.first", laid_unicode_utf8_first)], narrowed := true }
def AcceptBestUptoSaid : Prop := acceptBestUptoRow.holds Tryd.pinned (OpenSpec.upto acceptBestSpec)

/-- 'turnpikelaw07.AcceptMemory', WHERE WHAT IT READS IS OF BULK AT MOST 1048576: true; the input reads as it did. -/
def acceptMemoryUptoRow : OpenClaim := { program := "ythnniiakmjonjaadoor", sum := "157e811fe673a70afb112b2f88a6e0adb37183600fd6af668b12f9ccad403d5d", func := "turnpike/turnpikelaw07.AcceptMemory", spec := "acceptMemory", inPlace := ["internal/bytealg.IndexByteString", "internal/bytealg.IndexString", "internal/abi.NoEscape", "internal/bytealg.MakeNoZero"], unfollowed := true, recurses := true, named := ["unicode/utf8.first", "unicode/utf8.acceptRanges", "turnpike/octet.signs", "internal/bytealg.MaxLen"], apart := false, laid := [("unicode/utf8.acceptRanges", laid_unicode_utf8_acceptRanges), ("turnpike/octet.signs", laid_turnpike_octet_signs), ("unicode/utf8.first", laid_unicode_utf8_first)], narrowed := true }
def AcceptMemoryUptoSaid : Prop := acceptMemoryUptoRow.holds Tryd.pinned (OpenSpec.upto acceptMemorySpec)

/-- 'turnpikelaw07.AcceptTold', WHERE WHAT IT READS IS OF BULK AT MOST 1048576: true; the input reads as it did. -/
def acceptToldUptoRow : OpenClaim := { program := "ythnniiakmjonjaadoor", sum := "157e811fe673a70afb112b2f88a6e0adb37183600fd6af668b12f9ccad403d5d", func := "turnpike/turnpikelaw07.AcceptTold", spec := "acceptTold", inPlace := ["internal/abi.NoEscape", "internal/bytealg.IndexByteString", "internal/bytealg.IndexString", "internal/bytealg.MakeNoZero"], unfollowed := true, recurses := true, named := ["unicode/utf8.first", "unicode/utf8.acceptRanges", "turnpike/octet.signs", "internal/bytealg.MaxLen"], apart := false, laid := [("unicode/utf8.acceptRanges", laid_unicode_utf8_acceptRanges), ("turnpike/octet.signs", laid_turnpike_octet_signs), ("unicode/utf8.first", laid_unicode_utf8_first)], narrowed := true }
def AcceptToldUptoSaid : Prop := acceptToldUptoRow.holds Tryd.pinned (OpenSpec.upto acceptToldSpec)

/-- 'turnpikelaw07.AcceptLanguages', WHERE WHAT IT READS IS OF BULK AT MOST 1048576: true; the input reads as it did. -/
def acceptLanguagesUptoRow : OpenClaim := { program := "ythnniiakmjonjaadoor", sum := "157e811fe673a70afb112b2f88a6e0adb37183600fd6af668b12f9ccad403d5d", func := "turnpike/turnpikelaw07.AcceptLanguages", spec := "acceptLanguages", inPlace := ["internal/bytealg.IndexByteString", "internal/bytealg.IndexString", "internal/abi.NoEscape", "internal/bytealg.MakeNoZero", "internal/bytealg.CountString"], unfollowed := true, recurses := true, named := ["internal/bytealg.MaxLen", "unicode/utf8.first", "unicode/utf8.acceptRanges", "turnpike/octet.signs"], apart := false, laid := [("unicode/utf8.acceptRanges", laid_unicode_utf8_acceptRanges), ("turnpike/octet.signs", laid_turnpike_octet_signs), ("unicode/utf8.first", laid_unicode_utf8_first)], narrowed := true }
def AcceptLanguagesUptoSaid : Prop := acceptLanguagesUptoRow.holds Tryd.pinned (OpenSpec.upto acceptLanguagesSpec)

/-- 'turnpikelaw07.AcceptThousandths', WHERE WHAT IT READS IS OF BULK AT MOST 1048576: true; the input reads as it did. -/
def acceptThousandthsUptoRow : OpenClaim := { program := "ythnniiakmjonjaadoor", sum := "157e811fe673a70afb112b2f88a6e0adb37183600fd6af668b12f9ccad403d5d", func := "turnpike/turnpikelaw07.AcceptThousandths", spec := "acceptThousandths", inPlace := ["internal/bytealg.IndexByteString", "internal/bytealg.IndexString", "internal/abi.NoEscape", "internal/bytealg.MakeNoZero"], unfollowed := true, recurses := true, named := ["internal/strconv.uint64pow10", "math/bits.deBruijn32tab", "math/bits.deBruijn64tab", "unicode/utf8.first", "unicode/utf8.acceptRanges", "internal/bytealg.MaxLen", "turnpike/octet.signs"], apart := false, laid := [("math/bits.deBruijn32tab", laid_math_bits_deBruijn32tab), ("math/bits.deBruijn64tab", laid_math_bits_deBruijn64tab), ("internal/strconv.uint64pow10", laid_internal_strconv_uint64pow10), ("unicode/utf8.acceptRanges", laid_unicode_utf8_acceptRanges), ("turnpike/octet.signs", laid_turnpike_octet_signs), ("unicode/utf8.first", laid_unicode_utf8_first)], narrowed := true }
def AcceptThousandthsUptoSaid : Prop := acceptThousandthsUptoRow.holds Tryd.pinned (OpenSpec.upto acceptThousandthsSpec)

end Rows
end Go.Proofs.YthnniiakmjonjaaDoor
