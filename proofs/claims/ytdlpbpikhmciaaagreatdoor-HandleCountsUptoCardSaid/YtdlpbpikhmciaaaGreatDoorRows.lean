/-
  NARROWER THAN 'FOR EVERY INPUT', by the rows' own cells (each row's printed sentence says how): HandleChecks: laid · HandleRefers: laid · HandlePlains: laid · HandleCounts: laid · HandleUpgrades: laid.
  DERIVED. THE GIVEN ROWS OF THIS SEAT. 5 by the template 'for every input the law returns true; each argument reads behind the call as it read before'; 0 by the template 'total and deterministic' (their statements: YtdlpbpikhmciaaaGreatDoorTotals.lean).
  GIVEN WITH THE SEED: the statements are not yours to turn. If you find one false, say at which input.
  Laid BY PROGRAM, IN A SANDBOX (cutbox-rows.mjs): the forced cells as the released guide's own fill.sh prints them over the translation 15329db933e75de4… (all of the seat's roots in one cut). By AI agents, Wed Nov 11 2026. No macro, syntax, notation, axiom, sorry.
-/
import Derived.Test.YtdlpbpikhmciaaaGreatDoorChecked
import GoSem.PinnedTables
import GoSem.Claim
import GoSem.ClaimJoined
import GoSem.ClaimMapViews
import Derived.JoinedTies
import Derived.KernelRfl
namespace Go.Proofs.YtdlpbpikhmciaaaGreatDoor
/- THE CELL 'sum', in the pinned program and in every row, IS THE sha256 OF THE DUMP (.gsa) THAT YtdlpbpikhmciaaaGreatDoorProg.lean LOADS. Nothing in Lean hashes anything: it is a label: what it is worth is what the hold of that sum in a sandbox is worth. -/
noncomputable def Tryz.pinned : Pinned := { name := "ytdlpbpikhmciaaagreatdoor", sum := "15329db933e75de443b68eca763e82d19cb65fa37a909d624a6e8eb2edfc1a18", checked := Tryz.checked }
namespace Rows
def none {H : Type} : Left H := { results := [], args := [] }

/- WHAT THE LISTED PACKAGE-LEVEL VARIABLES READ AS WHEN THE CALL BEGINS. Each datum BY PROGRAM (the guide's laid-datum.mjs) off the statement by which the dump's own 'gosem.cut.vars' lays the variable. In a bare row this is a premise. The card (YtdlpbpikhmciaaaGreatDoorCards.lean) ties it to the program's text. -/
def laid_math_bits_deBruijn32tab {H : Type} : DataW H := .agg [.lit (.int .u8 0), .lit (.int .u8 1), .lit (.int .u8 28), .lit (.int .u8 2), .lit (.int .u8 29), .lit (.int .u8 14), .lit (.int .u8 24), .lit (.int .u8 3), .lit (.int .u8 30), .lit (.int .u8 22), .lit (.int .u8 20), .lit (.int .u8 15), .lit (.int .u8 25), .lit (.int .u8 17), .lit (.int .u8 4), .lit (.int .u8 8), .lit (.int .u8 31), .lit (.int .u8 27), .lit (.int .u8 13), .lit (.int .u8 23), .lit (.int .u8 21), .lit (.int .u8 19), .lit (.int .u8 16), .lit (.int .u8 7), .lit (.int .u8 26), .lit (.int .u8 12), .lit (.int .u8 18), .lit (.int .u8 6), .lit (.int .u8 11), .lit (.int .u8 5), .lit (.int .u8 10), .lit (.int .u8 9)]
def laid_math_bits_deBruijn64tab {H : Type} : DataW H := .agg [.lit (.int .u8 0), .lit (.int .u8 1), .lit (.int .u8 56), .lit (.int .u8 2), .lit (.int .u8 57), .lit (.int .u8 49), .lit (.int .u8 28), .lit (.int .u8 3), .lit (.int .u8 61), .lit (.int .u8 58), .lit (.int .u8 42), .lit (.int .u8 50), .lit (.int .u8 38), .lit (.int .u8 29), .lit (.int .u8 17), .lit (.int .u8 4), .lit (.int .u8 62), .lit (.int .u8 47), .lit (.int .u8 59), .lit (.int .u8 36), .lit (.int .u8 45), .lit (.int .u8 43), .lit (.int .u8 51), .lit (.int .u8 22), .lit (.int .u8 53), .lit (.int .u8 39), .lit (.int .u8 33), .lit (.int .u8 30), .lit (.int .u8 24), .lit (.int .u8 18), .lit (.int .u8 12), .lit (.int .u8 5), .lit (.int .u8 63), .lit (.int .u8 55), .lit (.int .u8 48), .lit (.int .u8 27), .lit (.int .u8 60), .lit (.int .u8 41), .lit (.int .u8 37), .lit (.int .u8 16), .lit (.int .u8 46), .lit (.int .u8 35), .lit (.int .u8 44), .lit (.int .u8 21), .lit (.int .u8 52), .lit (.int .u8 32), .lit (.int .u8 23), .lit (.int .u8 11), .lit (.int .u8 54), .lit (.int .u8 26), .lit (.int .u8 40), .lit (.int .u8 15), .lit (.int .u8 34), .lit (.int .u8 20), .lit (.int .u8 31), .lit (.int .u8 10), .lit (.int .u8 25), .lit (.int .u8 14), .lit (.int .u8 19), .lit (.int .u8 9), .lit (.int .u8 13), .lit (.int .u8 8), .lit (.int .u8 7), .lit (.int .u8 6)]
def laid_internal_strconv_uint64pow10 {H : Type} : DataW H := .agg [.lit (.int .u64 1), .lit (.int .u64 10), .lit (.int .u64 100), .lit (.int .u64 1000), .lit (.int .u64 10000), .lit (.int .u64 100000), .lit (.int .u64 1000000), .lit (.int .u64 10000000), .lit (.int .u64 100000000), .lit (.int .u64 1000000000), .lit (.int .u64 10000000000), .lit (.int .u64 100000000000), .lit (.int .u64 1000000000000), .lit (.int .u64 10000000000000), .lit (.int .u64 100000000000000), .lit (.int .u64 1000000000000000), .lit (.int .u64 10000000000000000), .lit (.int .u64 100000000000000000), .lit (.int .u64 1000000000000000000), .lit (.int .u64 10000000000000000000)]
def laid_unicode_utf8_acceptRanges {H : Type} : DataW H := .agg [.agg [.lit (.int .u8 128), .lit (.int .u8 191)], .agg [.lit (.int .u8 160), .lit (.int .u8 191)], .agg [.lit (.int .u8 128), .lit (.int .u8 159)], .agg [.lit (.int .u8 144), .lit (.int .u8 191)], .agg [.lit (.int .u8 128), .lit (.int .u8 143)], .agg [.lit (.int .u8 0), .lit (.int .u8 0)], .agg [.lit (.int .u8 0), .lit (.int .u8 0)], .agg [.lit (.int .u8 0), .lit (.int .u8 0)], .agg [.lit (.int .u8 0), .lit (.int .u8 0)], .agg [.lit (.int .u8 0), .lit (.int .u8 0)], .agg [.lit (.int .u8 0), .lit (.int .u8 0)], .agg [.lit (.int .u8 0), .lit (.int .u8 0)], .agg [.lit (.int .u8 0), .lit (.int .u8 0)], .agg [.lit (.int .u8 0), .lit (.int .u8 0)], .agg [.lit (.int .u8 0), .lit (.int .u8 0)], .agg [.lit (.int .u8 0), .lit (.int .u8 0)]]
def laid_errors_errorType {H : Type} : DataW H := .iface "internal/reflectlite.rtype" (.agg [.ptr (.lit (.string [101, 114, 114, 111, 114]))])
def laid_turnpike_octet_signs {H : Type} : DataW H := .agg [.lit (.int .u32 0), .lit (.int .u32 67071226), .lit (.int .u32 3355443198), .lit (.int .u32 1476395007)]
def laid_turnpike_stamp_weekdays {H : Type} : DataW H := .agg [.lit (.string [77, 111, 110, 100, 97, 121]), .lit (.string [84, 117, 101, 115, 100, 97, 121]), .lit (.string [87, 101, 100, 110, 101, 115, 100, 97, 121]), .lit (.string [84, 104, 117, 114, 115, 100, 97, 121]), .lit (.string [70, 114, 105, 100, 97, 121]), .lit (.string [83, 97, 116, 117, 114, 100, 97, 121]), .lit (.string [83, 117, 110, 100, 97, 121])]
def laid_turnpike_stamp_months {H : Type} : DataW H := .agg [.lit (.string [74, 97, 110]), .lit (.string [70, 101, 98]), .lit (.string [77, 97, 114]), .lit (.string [65, 112, 114]), .lit (.string [77, 97, 121]), .lit (.string [74, 117, 110]), .lit (.string [74, 117, 108]), .lit (.string [65, 117, 103]), .lit (.string [83, 101, 112]), .lit (.string [79, 99, 116]), .lit (.string [78, 111, 118]), .lit (.string [68, 101, 99])]
/-- One of Go's own tables, pinned by name: the form's constant. -/
def laid_unicode_utf8_first : DataW Unit := Go.Pinned.utf8First

/-- 'turnpikelaw18.HandleChecks': WHATEVER THE INPUT: true; the input reads as it did. -/
def handleChecksSpec : ChangeSpec := { name := "handleChecks", fn := fun _ => fun
  | [d] => { results := [.lit (.bool true)], args := [d] }
  | _ => none }
def handleChecksRow : OpenClaim := { program := "ytdlpbpikhmciaaagreatdoor", sum := "15329db933e75de443b68eca763e82d19cb65fa37a909d624a6e8eb2edfc1a18", func := "turnpike/turnpikelaw18.HandleChecks", spec := "handleChecks", inPlace := ["internal/bytealg.IndexByteString", "internal/bytealg.IndexString", "internal/abi.NoEscape", "internal/bytealg.CountString", "internal/bytealg.MakeNoZero", "internal/bytealg.abigen_runtime_cmpstring", "internal/reflectlite.ValueOf", "(internal/reflectlite.Value).Type", "(internal/reflectlite.Value).IsNil", "internal/reflectlite.TypeOf", "(internal/reflectlite.Value).Elem", "(internal/reflectlite.Value).Set"], unfollowed := true, recurses := true, named := ["unicode/utf8.first", "unicode/utf8.acceptRanges", "internal/strconv.uint64pow10", "math/bits.deBruijn32tab", "math/bits.deBruijn64tab", "internal/bytealg.MaxLen", "turnpike/octet.signs", "turnpike/stamp.weekdays", "turnpike/stamp.months", "errors.errorType"], apart := false, laid := [("math/bits.deBruijn32tab", laid_math_bits_deBruijn32tab), ("math/bits.deBruijn64tab", laid_math_bits_deBruijn64tab), ("internal/strconv.uint64pow10", laid_internal_strconv_uint64pow10), ("unicode/utf8.acceptRanges", laid_unicode_utf8_acceptRanges), ("errors.errorType", laid_errors_errorType), ("turnpike/octet.signs", laid_turnpike_octet_signs), ("turnpike/stamp.weekdays", laid_turnpike_stamp_weekdays), ("turnpike/stamp.months", laid_turnpike_stamp_months), ("unicode/utf8.first", laid_unicode_utf8_first)] }
def HandleChecksSaid : Prop := handleChecksRow.holds Tryz.pinned (OpenSpec.ofChange handleChecksSpec)

/-- ITS FALSE NEIGHBOUR: 'it returns false'. Refute it at one input. -/
def handleChecksWrong : ChangeSpec := { name := "handleChecks", fn := fun _ => fun
  | [d] => { results := [.lit (.bool false)], args := [d] }
  | _ => none }
def HandleChecksWrongFalsely : Prop := handleChecksRow.holds Tryz.pinned (OpenSpec.ofChange handleChecksWrong)

/-- 'turnpikelaw18.HandleRefers': WHATEVER THE INPUT: true; the input reads as it did. -/
def handleRefersSpec : ChangeSpec := { name := "handleRefers", fn := fun _ => fun
  | [d1, d2] => { results := [.lit (.bool true)], args := [d1, d2] }
  | _ => none }
def handleRefersRow : OpenClaim := { program := "ytdlpbpikhmciaaagreatdoor", sum := "15329db933e75de443b68eca763e82d19cb65fa37a909d624a6e8eb2edfc1a18", func := "turnpike/turnpikelaw18.HandleRefers", spec := "handleRefers", inPlace := ["internal/bytealg.IndexByteString", "internal/bytealg.IndexString", "internal/abi.NoEscape", "internal/bytealg.CountString", "internal/bytealg.MakeNoZero", "internal/bytealg.abigen_runtime_cmpstring", "internal/reflectlite.ValueOf", "(internal/reflectlite.Value).Type", "(internal/reflectlite.Value).IsNil", "internal/reflectlite.TypeOf", "(internal/reflectlite.Value).Elem", "(internal/reflectlite.Value).Set"], unfollowed := true, recurses := true, named := ["unicode/utf8.first", "unicode/utf8.acceptRanges", "internal/strconv.uint64pow10", "math/bits.deBruijn32tab", "math/bits.deBruijn64tab", "internal/bytealg.MaxLen", "turnpike/octet.signs", "turnpike/stamp.weekdays", "turnpike/stamp.months", "errors.errorType"], apart := false, laid := [("math/bits.deBruijn32tab", laid_math_bits_deBruijn32tab), ("math/bits.deBruijn64tab", laid_math_bits_deBruijn64tab), ("internal/strconv.uint64pow10", laid_internal_strconv_uint64pow10), ("unicode/utf8.acceptRanges", laid_unicode_utf8_acceptRanges), ("errors.errorType", laid_errors_errorType), ("turnpike/octet.signs", laid_turnpike_octet_signs), ("turnpike/stamp.weekdays", laid_turnpike_stamp_weekdays), ("turnpike/stamp.months", laid_turnpike_stamp_months), ("unicode/utf8.first", laid_unicode_utf8_first)] }
def HandleRefersSaid : Prop := handleRefersRow.holds Tryz.pinned (OpenSpec.ofChange handleRefersSpec)

/-- ITS FALSE NEIGHBOUR: 'it returns false'. Refute it at one input. -/
def handleRefersWrong : ChangeSpec := { name := "handleRefers", fn := fun _ => fun
  | [d1, d2] => { results := [.lit (.bool false)], args := [d1, d2] }
  | _ => none }
def HandleRefersWrongFalsely : Prop := handleRefersRow.holds Tryz.pinned (OpenSpec.ofChange handleRefersWrong)

/-- 'turnpikelaw18.HandlePlains': WHATEVER THE INPUT: true; the input reads as it did. -/
def handlePlainsSpec : ChangeSpec := { name := "handlePlains", fn := fun _ => fun
  | [d1, d2] => { results := [.lit (.bool true)], args := [d1, d2] }
  | _ => none }
def handlePlainsRow : OpenClaim := { program := "ytdlpbpikhmciaaagreatdoor", sum := "15329db933e75de443b68eca763e82d19cb65fa37a909d624a6e8eb2edfc1a18", func := "turnpike/turnpikelaw18.HandlePlains", spec := "handlePlains", inPlace := ["internal/bytealg.IndexByteString", "internal/bytealg.IndexString", "internal/abi.NoEscape", "internal/bytealg.CountString", "internal/bytealg.MakeNoZero", "internal/bytealg.abigen_runtime_cmpstring", "internal/reflectlite.ValueOf", "(internal/reflectlite.Value).Type", "(internal/reflectlite.Value).IsNil", "internal/reflectlite.TypeOf", "(internal/reflectlite.Value).Elem", "(internal/reflectlite.Value).Set"], unfollowed := true, recurses := true, named := ["unicode/utf8.first", "unicode/utf8.acceptRanges", "internal/strconv.uint64pow10", "math/bits.deBruijn32tab", "math/bits.deBruijn64tab", "internal/bytealg.MaxLen", "turnpike/octet.signs", "turnpike/stamp.weekdays", "turnpike/stamp.months", "errors.errorType"], apart := false, laid := [("math/bits.deBruijn32tab", laid_math_bits_deBruijn32tab), ("math/bits.deBruijn64tab", laid_math_bits_deBruijn64tab), ("internal/strconv.uint64pow10", laid_internal_strconv_uint64pow10), ("unicode/utf8.acceptRanges", laid_unicode_utf8_acceptRanges), ("errors.errorType", laid_errors_errorType), ("turnpike/octet.signs", laid_turnpike_octet_signs), ("turnpike/stamp.weekdays", laid_turnpike_stamp_weekdays), ("turnpike/stamp.months", laid_turnpike_stamp_months), ("unicode/utf8.first", laid_unicode_utf8_first)] }
def HandlePlainsSaid : Prop := handlePlainsRow.holds Tryz.pinned (OpenSpec.ofChange handlePlainsSpec)

/-- ITS FALSE NEIGHBOUR: 'it returns false'. Refute it at one input. -/
def handlePlainsWrong : ChangeSpec := { name := "handlePlains", fn := fun _ => fun
  | [d1, d2] => { results := [.lit (.bool false)], args := [d1, d2] }
  | _ => none }
def HandlePlainsWrongFalsely : Prop := handlePlainsRow.holds Tryz.pinned (OpenSpec.ofChange handlePlainsWrong)

/-- 'turnpikelaw18.HandleCounts': WHATEVER THE INPUT: true; the input reads as it did. -/
def handleCountsSpec : ChangeSpec := { name := "handleCounts", fn := fun _ => fun
  | [d1, d2, d3] => { results := [.lit (.bool true)], args := [d1, d2, d3] }
  | _ => none }
def handleCountsRow : OpenClaim := { program := "ytdlpbpikhmciaaagreatdoor", sum := "15329db933e75de443b68eca763e82d19cb65fa37a909d624a6e8eb2edfc1a18", func := "turnpike/turnpikelaw18.HandleCounts", spec := "handleCounts", inPlace := ["internal/bytealg.IndexByteString", "internal/bytealg.IndexString", "internal/abi.NoEscape", "internal/bytealg.CountString", "internal/bytealg.MakeNoZero", "internal/bytealg.abigen_runtime_cmpstring", "internal/reflectlite.ValueOf", "(internal/reflectlite.Value).Type", "(internal/reflectlite.Value).IsNil", "internal/reflectlite.TypeOf", "(internal/reflectlite.Value).Elem", "(internal/reflectlite.Value).Set"], unfollowed := true, recurses := true, named := ["unicode/utf8.first", "unicode/utf8.acceptRanges", "internal/strconv.uint64pow10", "math/bits.deBruijn32tab", "math/bits.deBruijn64tab", "internal/bytealg.MaxLen", "turnpike/octet.signs", "turnpike/stamp.weekdays", "turnpike/stamp.months", "errors.errorType"], apart := false, laid := [("math/bits.deBruijn32tab", laid_math_bits_deBruijn32tab), ("math/bits.deBruijn64tab", laid_math_bits_deBruijn64tab), ("internal/strconv.uint64pow10", laid_internal_strconv_uint64pow10), ("unicode/utf8.acceptRanges", laid_unicode_utf8_acceptRanges), ("errors.errorType", laid_errors_errorType), ("turnpike/octet.signs", laid_turnpike_octet_signs), ("turnpike/stamp.weekdays", laid_turnpike_stamp_weekdays), ("turnpike/stamp.months", laid_turnpike_stamp_months), ("unicode/utf8.first", laid_unicode_utf8_first)] }
def HandleCountsSaid : Prop := handleCountsRow.holds Tryz.pinned (OpenSpec.ofChange handleCountsSpec)

/-- ITS FALSE NEIGHBOUR: 'it returns false'. Refute it at one input. -/
def handleCountsWrong : ChangeSpec := { name := "handleCounts", fn := fun _ => fun
  | [d1, d2, d3] => { results := [.lit (.bool false)], args := [d1, d2, d3] }
  | _ => none }
def HandleCountsWrongFalsely : Prop := handleCountsRow.holds Tryz.pinned (OpenSpec.ofChange handleCountsWrong)

/-- 'turnpikelaw18.HandleUpgrades': WHATEVER THE INPUT: true; the input reads as it did. -/
def handleUpgradesSpec : ChangeSpec := { name := "handleUpgrades", fn := fun _ => fun
  | [d1, d2] => { results := [.lit (.bool true)], args := [d1, d2] }
  | _ => none }
def handleUpgradesRow : OpenClaim := { program := "ytdlpbpikhmciaaagreatdoor", sum := "15329db933e75de443b68eca763e82d19cb65fa37a909d624a6e8eb2edfc1a18", func := "turnpike/turnpikelaw18.HandleUpgrades", spec := "handleUpgrades", inPlace := ["internal/bytealg.IndexByteString", "internal/bytealg.IndexString", "internal/abi.NoEscape", "internal/bytealg.CountString", "internal/bytealg.MakeNoZero", "internal/bytealg.abigen_runtime_cmpstring", "internal/reflectlite.ValueOf", "(internal/reflectlite.Value).Type", "(internal/reflectlite.Value).IsNil", "internal/reflectlite.TypeOf", "(internal/reflectlite.Value).Elem", "(internal/reflectlite.Value).Set"], unfollowed := true, recurses := true, named := ["unicode/utf8.first", "unicode/utf8.acceptRanges", "internal/strconv.uint64pow10", "math/bits.deBruijn32tab", "math/bits.deBruijn64tab", "internal/bytealg.MaxLen", "turnpike/octet.signs", "turnpike/stamp.weekdays", "turnpike/stamp.months", "errors.errorType"], apart := false, laid := [("math/bits.deBruijn32tab", laid_math_bits_deBruijn32tab), ("math/bits.deBruijn64tab", laid_math_bits_deBruijn64tab), ("internal/strconv.uint64pow10", laid_internal_strconv_uint64pow10), ("unicode/utf8.acceptRanges", laid_unicode_utf8_acceptRanges), ("errors.errorType", laid_errors_errorType), ("turnpike/octet.signs", laid_turnpike_octet_signs), ("turnpike/stamp.weekdays", laid_turnpike_stamp_weekdays), ("turnpike/stamp.months", laid_turnpike_stamp_months), ("unicode/utf8.first", laid_unicode_utf8_first)] }
def HandleUpgradesSaid : Prop := handleUpgradesRow.holds Tryz.pinned (OpenSpec.ofChange handleUpgradesSpec)

/-- ITS FALSE NEIGHBOUR: 'it returns false'. Refute it at one input. -/
def handleUpgradesWrong : ChangeSpec := { name := "handleUpgrades", fn := fun _ => fun
  | [d1, d2] => { results := [.lit (.bool false)], args := [d1, d2] }
  | _ => none }
def HandleUpgradesWrongFalsely : Prop := handleUpgradesRow.holds Tryz.pinned (OpenSpec.ofChange handleUpgradesWrong)

/- THE SECOND FORM. 'bulk': how many values and letters a reading holds, each counted each time it is reached (what is shared counts as often as it is met; a slice's spare places count too). A statement '..UptoSaid' is the law's where the arguments, and the package variables that the reading takes, are together of bulk at most 1048576: NARROWER than '..Said'. Prove '..Said' where nothing that the law and all that it calls make is longer than what came in: it says more and counts as full. Else prove '..UptoSaid'. A law counts once. -/
mutual
def uptoBulk {H : Type} : DataW H → Nat
  | .lit (.string bytes) => bytes.length + 1
  | .lit _ => 1
  | .nil => 1
  | .ptr d => uptoBulk d + 1
  | .slice elems spare => uptoBulkAll elems + uptoBulkAll spare + 1
  | .agg parts => uptoBulkAll parts + 1
  | .iface _ d => uptoBulk d + 1
  | .map entries => uptoBulkEntries entries + 1
  | .held _ => 1
def uptoBulkAll {H : Type} : List (DataW H) → Nat
  | [] => 0
  | d :: r => uptoBulk d + uptoBulkAll r
def uptoBulkEntries {H : Type} : List (Lit × DataW H) → Nat
  | [] => 0
  | x :: r => uptoBulkEntry x + uptoBulkEntries r
def uptoBulkEntry {H : Type} : Lit × DataW H → Nat
  | (.string bytes, d) => bytes.length + uptoBulk d + 1
  | (_, d) => uptoBulk d + 1
 end
def uptoSmall : (H : Type) → List (DataW H) → Bool := fun _ ds => decide (uptoBulkAll ds ≤ 1048576)
def OpenSpec.upto (s : _root_.Go.ChangeSpec) : _root_.Go.OpenSpec := { _root_.Go.OpenSpec.ofChange s with cond := some uptoSmall }

/-- 'turnpikelaw18.HandleChecks', WHERE WHAT IT READS IS OF BULK AT MOST 1048576: true; the input reads as it did. -/
def handleChecksUptoRow : OpenClaim := { program := "ytdlpbpikhmciaaagreatdoor", sum := "15329db933e75de443b68eca763e82d19cb65fa37a909d624a6e8eb2edfc1a18", func := "turnpike/turnpikelaw18.HandleChecks", spec := "handleChecks", inPlace := ["internal/bytealg.IndexByteString", "internal/bytealg.IndexString", "internal/abi.NoEscape", "internal/bytealg.CountString", "internal/bytealg.MakeNoZero", "internal/bytealg.abigen_runtime_cmpstring", "internal/reflectlite.ValueOf", "(internal/reflectlite.Value).Type", "(internal/reflectlite.Value).IsNil", "internal/reflectlite.TypeOf", "(internal/reflectlite.Value).Elem", "(internal/reflectlite.Value).Set"], unfollowed := true, recurses := true, named := ["unicode/utf8.first", "unicode/utf8.acceptRanges", "internal/strconv.uint64pow10", "math/bits.deBruijn32tab", "math/bits.deBruijn64tab", "internal/bytealg.MaxLen", "turnpike/octet.signs", "turnpike/stamp.weekdays", "turnpike/stamp.months", "errors.errorType"], apart := false, laid := [("math/bits.deBruijn32tab", laid_math_bits_deBruijn32tab), ("math/bits.deBruijn64tab", laid_math_bits_deBruijn64tab), ("internal/strconv.uint64pow10", laid_internal_strconv_uint64pow10), ("unicode/utf8.acceptRanges", laid_unicode_utf8_acceptRanges), ("errors.errorType", laid_errors_errorType), ("turnpike/octet.signs", laid_turnpike_octet_signs), ("turnpike/stamp.weekdays", laid_turnpike_stamp_weekdays), ("turnpike/stamp.months", laid_turnpike_stamp_months), ("unicode/utf8.first", laid_unicode_utf8_first)], narrowed := true }
def HandleChecksUptoSaid : Prop := handleChecksUptoRow.holds Tryz.pinned (OpenSpec.upto handleChecksSpec)

/-- 'turnpikelaw18.HandleRefers', WHERE WHAT IT READS IS OF BULK AT MOST 1048576: true; the input reads as it did. -/
def handleRefersUptoRow : OpenClaim := { program := "ytdlpbpikhmciaaagreatdoor", sum := "15329db933e75de443b68eca763e82d19cb65fa37a909d624a6e8eb2edfc1a18", func := "turnpike/turnpikelaw18.HandleRefers", spec := "handleRefers", inPlace := ["internal/bytealg.IndexByteString", "internal/bytealg.IndexString", "internal/abi.NoEscape", "internal/bytealg.CountString", "internal/bytealg.MakeNoZero", "internal/bytealg.abigen_runtime_cmpstring", "internal/reflectlite.ValueOf", "(internal/reflectlite.Value).Type", "(internal/reflectlite.Value).IsNil", "internal/reflectlite.TypeOf", "(internal/reflectlite.Value).Elem", "(internal/reflectlite.Value).Set"], unfollowed := true, recurses := true, named := ["unicode/utf8.first", "unicode/utf8.acceptRanges", "internal/strconv.uint64pow10", "math/bits.deBruijn32tab", "math/bits.deBruijn64tab", "internal/bytealg.MaxLen", "turnpike/octet.signs", "turnpike/stamp.weekdays", "turnpike/stamp.months", "errors.errorType"], apart := false, laid := [("math/bits.deBruijn32tab", laid_math_bits_deBruijn32tab), ("math/bits.deBruijn64tab", laid_math_bits_deBruijn64tab), ("internal/strconv.uint64pow10", laid_internal_strconv_uint64pow10), ("unicode/utf8.acceptRanges", laid_unicode_utf8_acceptRanges), ("errors.errorType", laid_errors_errorType), ("turnpike/octet.signs", laid_turnpike_octet_signs), ("turnpike/stamp.weekdays", laid_turnpike_stamp_weekdays), ("turnpike/stamp.months", laid_turnpike_stamp_months), ("unicode/utf8.first", laid_unicode_utf8_first)], narrowed := true }
def HandleRefersUptoSaid : Prop := handleRefersUptoRow.holds Tryz.pinned (OpenSpec.upto handleRefersSpec)

/-- 'turnpikelaw18.HandlePlains', WHERE WHAT IT READS IS OF BULK AT MOST 1048576: true; the input reads as it did. -/
def handlePlainsUptoRow : OpenClaim := { program := "ytdlpbpikhmciaaagreatdoor", sum := "15329db933e75de443b68eca763e82d19cb65fa37a909d624a6e8eb2edfc1a18", func := "turnpike/turnpikelaw18.HandlePlains", spec := "handlePlains", inPlace := ["internal/bytealg.IndexByteString", "internal/bytealg.IndexString", "internal/abi.NoEscape", "internal/bytealg.CountString", "internal/bytealg.MakeNoZero", "internal/bytealg.abigen_runtime_cmpstring", "internal/reflectlite.ValueOf", "(internal/reflectlite.Value).Type", "(internal/reflectlite.Value).IsNil", "internal/reflectlite.TypeOf", "(internal/reflectlite.Value).Elem", "(internal/reflectlite.Value).Set"], unfollowed := true, recurses := true, named := ["unicode/utf8.first", "unicode/utf8.acceptRanges", "internal/strconv.uint64pow10", "math/bits.deBruijn32tab", "math/bits.deBruijn64tab", "internal/bytealg.MaxLen", "turnpike/octet.signs", "turnpike/stamp.weekdays", "turnpike/stamp.months", "errors.errorType"], apart := false, laid := [("math/bits.deBruijn32tab", laid_math_bits_deBruijn32tab), ("math/bits.deBruijn64tab", laid_math_bits_deBruijn64tab), ("internal/strconv.uint64pow10", laid_internal_strconv_uint64pow10), ("unicode/utf8.acceptRanges", laid_unicode_utf8_acceptRanges), ("errors.errorType", laid_errors_errorType), ("turnpike/octet.signs", laid_turnpike_octet_signs), ("turnpike/stamp.weekdays", laid_turnpike_stamp_weekdays), ("turnpike/stamp.months", laid_turnpike_stamp_months), ("unicode/utf8.first", laid_unicode_utf8_first)], narrowed := true }
def HandlePlainsUptoSaid : Prop := handlePlainsUptoRow.holds Tryz.pinned (OpenSpec.upto handlePlainsSpec)

/-- 'turnpikelaw18.HandleCounts', WHERE WHAT IT READS IS OF BULK AT MOST 1048576: true; the input reads as it did. -/
def handleCountsUptoRow : OpenClaim := { program := "ytdlpbpikhmciaaagreatdoor", sum := "15329db933e75de443b68eca763e82d19cb65fa37a909d624a6e8eb2edfc1a18", func := "turnpike/turnpikelaw18.HandleCounts", spec := "handleCounts", inPlace := ["internal/bytealg.IndexByteString", "internal/bytealg.IndexString", "internal/abi.NoEscape", "internal/bytealg.CountString", "internal/bytealg.MakeNoZero", "internal/bytealg.abigen_runtime_cmpstring", "internal/reflectlite.ValueOf", "(internal/reflectlite.Value).Type", "(internal/reflectlite.Value).IsNil", "internal/reflectlite.TypeOf", "(internal/reflectlite.Value).Elem", "(internal/reflectlite.Value).Set"], unfollowed := true, recurses := true, named := ["unicode/utf8.first", "unicode/utf8.acceptRanges", "internal/strconv.uint64pow10", "math/bits.deBruijn32tab", "math/bits.deBruijn64tab", "internal/bytealg.MaxLen", "turnpike/octet.signs", "turnpike/stamp.weekdays", "turnpike/stamp.months", "errors.errorType"], apart := false, laid := [("math/bits.deBruijn32tab", laid_math_bits_deBruijn32tab), ("math/bits.deBruijn64tab", laid_math_bits_deBruijn64tab), ("internal/strconv.uint64pow10", laid_internal_strconv_uint64pow10), ("unicode/utf8.acceptRanges", laid_unicode_utf8_acceptRanges), ("errors.errorType", laid_errors_errorType), ("turnpike/octet.signs", laid_turnpike_octet_signs), ("turnpike/stamp.weekdays", laid_turnpike_stamp_weekdays), ("turnpike/stamp.months", laid_turnpike_stamp_months), ("unicode/utf8.first", laid_unicode_utf8_first)], narrowed := true }
def HandleCountsUptoSaid : Prop := handleCountsUptoRow.holds Tryz.pinned (OpenSpec.upto handleCountsSpec)

/-- 'turnpikelaw18.HandleUpgrades', WHERE WHAT IT READS IS OF BULK AT MOST 1048576: true; the input reads as it did. -/
def handleUpgradesUptoRow : OpenClaim := { program := "ytdlpbpikhmciaaagreatdoor", sum := "15329db933e75de443b68eca763e82d19cb65fa37a909d624a6e8eb2edfc1a18", func := "turnpike/turnpikelaw18.HandleUpgrades", spec := "handleUpgrades", inPlace := ["internal/bytealg.IndexByteString", "internal/bytealg.IndexString", "internal/abi.NoEscape", "internal/bytealg.CountString", "internal/bytealg.MakeNoZero", "internal/bytealg.abigen_runtime_cmpstring", "internal/reflectlite.ValueOf", "(internal/reflectlite.Value).Type", "(internal/reflectlite.Value).IsNil", "internal/reflectlite.TypeOf", "(internal/reflectlite.Value).Elem", "(internal/reflectlite.Value).Set"], unfollowed := true, recurses := true, named := ["unicode/utf8.first", "unicode/utf8.acceptRanges", "internal/strconv.uint64pow10", "math/bits.deBruijn32tab", "math/bits.deBruijn64tab", "internal/bytealg.MaxLen", "turnpike/octet.signs", "turnpike/stamp.weekdays", "turnpike/stamp.months", "errors.errorType"], apart := false, laid := [("math/bits.deBruijn32tab", laid_math_bits_deBruijn32tab), ("math/bits.deBruijn64tab", laid_math_bits_deBruijn64tab), ("internal/strconv.uint64pow10", laid_internal_strconv_uint64pow10), ("unicode/utf8.acceptRanges", laid_unicode_utf8_acceptRanges), ("errors.errorType", laid_errors_errorType), ("turnpike/octet.signs", laid_turnpike_octet_signs), ("turnpike/stamp.weekdays", laid_turnpike_stamp_weekdays), ("turnpike/stamp.months", laid_turnpike_stamp_months), ("unicode/utf8.first", laid_unicode_utf8_first)], narrowed := true }
def HandleUpgradesUptoSaid : Prop := handleUpgradesUptoRow.holds Tryz.pinned (OpenSpec.upto handleUpgradesSpec)

end Rows
end Go.Proofs.YtdlpbpikhmciaaaGreatDoor
