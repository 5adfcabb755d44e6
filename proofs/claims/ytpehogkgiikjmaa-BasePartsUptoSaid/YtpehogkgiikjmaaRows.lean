/-
  No cell of these rows narrows 'for every input' (looked for: loops, veiled, ifaces, maps, wideKeys, modest, calm, conditions, laid).
  DERIVED. THE GIVEN ROWS OF THIS SEAT. 11 by the template 'for every input the law returns true; each argument reads behind the call as it read before'; 0 by the template 'total and deterministic' (their statements: YtpehogkgiikjmaaTotals.lean).
  GIVEN WITH THE SEED: the statements are not yours to turn. If you find one false, say at which input.
  Laid BY PROGRAM, IN A SANDBOX (cutbox-rows.mjs): the forced cells as the released guide's own fill.sh prints them over the translation 1c74cea6e64b9a18… (all of the seat's roots in one cut). By AI agents, Wed Nov 11 2026. No macro, syntax, notation, axiom, sorry.
-/
import Derived.Test.YtpehogkgiikjmaaChecked
import GoSem.Claim
import GoSem.ClaimJoined
import GoSem.ClaimMapViews
import Derived.JoinedTies
import Derived.KernelRfl
namespace Go.Proofs.Ytpehogkgiikjmaa
/- THE CELL 'sum', in the pinned program and in every row, IS THE sha256 OF THE DUMP (.gsa) THAT YtpehogkgiikjmaaProg.lean LOADS. Nothing in Lean hashes anything: it is a label: what it is worth is what the hold of that sum in a sandbox is worth. -/
noncomputable def Try.pinned : Pinned := { name := "ytpehogkgiikjmaa", sum := "1c74cea6e64b9a18942538a74ca670f80bf056949bdcd842e231de0dfcf7b3ef", checked := Try.checked }
namespace Rows
def none {H : Type} : Left H := { results := [], args := [] }

/-- 'turnpikelaw03.BaseEncodes': WHATEVER THE INPUT: true; the input reads as it did. -/
def baseEncodesSpec : ChangeSpec := { name := "baseEncodes", fn := fun _ => fun
  | [d] => { results := [.lit (.bool true)], args := [d] }
  | _ => none }
def baseEncodesRow : OpenClaim := { program := "ytpehogkgiikjmaa", sum := "1c74cea6e64b9a18942538a74ca670f80bf056949bdcd842e231de0dfcf7b3ef", func := "turnpike/turnpikelaw03.BaseEncodes", spec := "baseEncodes", inPlace := ["internal/abi.NoEscape"], apart := false }
def BaseEncodesSaid : Prop := baseEncodesRow.holds Try.pinned (OpenSpec.ofChange baseEncodesSpec)

/-- ITS FALSE NEIGHBOUR: 'it returns false'. Refute it at one input. -/
def baseEncodesWrong : ChangeSpec := { name := "baseEncodes", fn := fun _ => fun
  | [d] => { results := [.lit (.bool false)], args := [d] }
  | _ => none }
def BaseEncodesWrongFalsely : Prop := baseEncodesRow.holds Try.pinned (OpenSpec.ofChange baseEncodesWrong)

/-- 'turnpikelaw03.BaseTurns': WHATEVER THE INPUT: true; the input reads as it did. -/
def baseTurnsSpec : ChangeSpec := { name := "baseTurns", fn := fun _ => fun
  | [d1, d2, d3] => { results := [.lit (.bool true)], args := [d1, d2, d3] }
  | _ => none }
def baseTurnsRow : OpenClaim := { program := "ytpehogkgiikjmaa", sum := "1c74cea6e64b9a18942538a74ca670f80bf056949bdcd842e231de0dfcf7b3ef", func := "turnpike/turnpikelaw03.BaseTurns", spec := "baseTurns", inPlace := ["internal/abi.NoEscape"], apart := false }
def BaseTurnsSaid : Prop := baseTurnsRow.holds Try.pinned (OpenSpec.ofChange baseTurnsSpec)

/-- ITS FALSE NEIGHBOUR: 'it returns false'. Refute it at one input. -/
def baseTurnsWrong : ChangeSpec := { name := "baseTurns", fn := fun _ => fun
  | [d1, d2, d3] => { results := [.lit (.bool false)], args := [d1, d2, d3] }
  | _ => none }
def BaseTurnsWrongFalsely : Prop := baseTurnsRow.holds Try.pinned (OpenSpec.ofChange baseTurnsWrong)

/-- 'turnpikelaw03.BaseUnhex': WHATEVER THE INPUT: true; the input reads as it did. -/
def baseUnhexSpec : ChangeSpec := { name := "baseUnhex", fn := fun _ => fun
  | [d] => { results := [.lit (.bool true)], args := [d] }
  | _ => none }
def baseUnhexRow : OpenClaim := { program := "ytpehogkgiikjmaa", sum := "1c74cea6e64b9a18942538a74ca670f80bf056949bdcd842e231de0dfcf7b3ef", func := "turnpike/turnpikelaw03.BaseUnhex", spec := "baseUnhex", inPlace := ["internal/bytealg.IndexByteString", "internal/abi.NoEscape"], apart := false }
def BaseUnhexSaid : Prop := baseUnhexRow.holds Try.pinned (OpenSpec.ofChange baseUnhexSpec)

/-- ITS FALSE NEIGHBOUR: 'it returns false'. Refute it at one input. -/
def baseUnhexWrong : ChangeSpec := { name := "baseUnhex", fn := fun _ => fun
  | [d] => { results := [.lit (.bool false)], args := [d] }
  | _ => none }
def BaseUnhexWrongFalsely : Prop := baseUnhexRow.holds Try.pinned (OpenSpec.ofChange baseUnhexWrong)

/-- 'turnpikelaw03.BaseDecodes': WHATEVER THE INPUT: true; the input reads as it did. -/
def baseDecodesSpec : ChangeSpec := { name := "baseDecodes", fn := fun _ => fun
  | [d] => { results := [.lit (.bool true)], args := [d] }
  | _ => none }
def baseDecodesRow : OpenClaim := { program := "ytpehogkgiikjmaa", sum := "1c74cea6e64b9a18942538a74ca670f80bf056949bdcd842e231de0dfcf7b3ef", func := "turnpike/turnpikelaw03.BaseDecodes", spec := "baseDecodes", inPlace := ["internal/bytealg.IndexByteString", "internal/abi.NoEscape"], apart := false }
def BaseDecodesSaid : Prop := baseDecodesRow.holds Try.pinned (OpenSpec.ofChange baseDecodesSpec)

/-- ITS FALSE NEIGHBOUR: 'it returns false'. Refute it at one input. -/
def baseDecodesWrong : ChangeSpec := { name := "baseDecodes", fn := fun _ => fun
  | [d] => { results := [.lit (.bool false)], args := [d] }
  | _ => none }
def BaseDecodesWrongFalsely : Prop := baseDecodesRow.holds Try.pinned (OpenSpec.ofChange baseDecodesWrong)

/-- 'turnpikelaw03.BaseBegins': WHATEVER THE INPUT: true; the input reads as it did. -/
def baseBeginsSpec : ChangeSpec := { name := "baseBegins", fn := fun _ => fun
  | [d] => { results := [.lit (.bool true)], args := [d] }
  | _ => none }
def baseBeginsRow : OpenClaim := { program := "ytpehogkgiikjmaa", sum := "1c74cea6e64b9a18942538a74ca670f80bf056949bdcd842e231de0dfcf7b3ef", func := "turnpike/turnpikelaw03.BaseBegins", spec := "baseBegins", inPlace := ["internal/bytealg.IndexByteString", "internal/abi.NoEscape"], apart := false }
def BaseBeginsSaid : Prop := baseBeginsRow.holds Try.pinned (OpenSpec.ofChange baseBeginsSpec)

/-- ITS FALSE NEIGHBOUR: 'it returns false'. Refute it at one input. -/
def baseBeginsWrong : ChangeSpec := { name := "baseBegins", fn := fun _ => fun
  | [d] => { results := [.lit (.bool false)], args := [d] }
  | _ => none }
def BaseBeginsWrongFalsely : Prop := baseBeginsRow.holds Try.pinned (OpenSpec.ofChange baseBeginsWrong)

/-- 'turnpikelaw03.BaseBack': WHATEVER THE INPUT: true; the input reads as it did. -/
def baseBackSpec : ChangeSpec := { name := "baseBack", fn := fun _ => fun
  | [d] => { results := [.lit (.bool true)], args := [d] }
  | _ => none }
def baseBackRow : OpenClaim := { program := "ytpehogkgiikjmaa", sum := "1c74cea6e64b9a18942538a74ca670f80bf056949bdcd842e231de0dfcf7b3ef", func := "turnpike/turnpikelaw03.BaseBack", spec := "baseBack", inPlace := ["internal/abi.NoEscape", "internal/bytealg.IndexByteString"], apart := false }
def BaseBackSaid : Prop := baseBackRow.holds Try.pinned (OpenSpec.ofChange baseBackSpec)

/-- ITS FALSE NEIGHBOUR: 'it returns false'. Refute it at one input. -/
def baseBackWrong : ChangeSpec := { name := "baseBack", fn := fun _ => fun
  | [d] => { results := [.lit (.bool false)], args := [d] }
  | _ => none }
def BaseBackWrongFalsely : Prop := baseBackRow.holds Try.pinned (OpenSpec.ofChange baseBackWrong)

/-- 'turnpikelaw03.BaseOnce': WHATEVER THE INPUT: true; the input reads as it did. -/
def baseOnceSpec : ChangeSpec := { name := "baseOnce", fn := fun _ => fun
  | [d1, d2] => { results := [.lit (.bool true)], args := [d1, d2] }
  | _ => none }
def baseOnceRow : OpenClaim := { program := "ytpehogkgiikjmaa", sum := "1c74cea6e64b9a18942538a74ca670f80bf056949bdcd842e231de0dfcf7b3ef", func := "turnpike/turnpikelaw03.BaseOnce", spec := "baseOnce", inPlace := ["internal/bytealg.IndexByteString", "internal/abi.NoEscape"], apart := false }
def BaseOnceSaid : Prop := baseOnceRow.holds Try.pinned (OpenSpec.ofChange baseOnceSpec)

/-- ITS FALSE NEIGHBOUR: 'it returns false'. Refute it at one input. -/
def baseOnceWrong : ChangeSpec := { name := "baseOnce", fn := fun _ => fun
  | [d1, d2] => { results := [.lit (.bool false)], args := [d1, d2] }
  | _ => none }
def BaseOnceWrongFalsely : Prop := baseOnceRow.holds Try.pinned (OpenSpec.ofChange baseOnceWrong)

/-- 'turnpikelaw03.BaseParts': WHATEVER THE INPUT: true; the input reads as it did. -/
def basePartsSpec : ChangeSpec := { name := "baseParts", fn := fun _ => fun
  | [d] => { results := [.lit (.bool true)], args := [d] }
  | _ => none }
def basePartsRow : OpenClaim := { program := "ytpehogkgiikjmaa", sum := "1c74cea6e64b9a18942538a74ca670f80bf056949bdcd842e231de0dfcf7b3ef", func := "turnpike/turnpikelaw03.BaseParts", spec := "baseParts", inPlace := ["internal/abi.NoEscape"], apart := false }
def BasePartsSaid : Prop := basePartsRow.holds Try.pinned (OpenSpec.ofChange basePartsSpec)

/-- ITS FALSE NEIGHBOUR: 'it returns false'. Refute it at one input. -/
def basePartsWrong : ChangeSpec := { name := "baseParts", fn := fun _ => fun
  | [d] => { results := [.lit (.bool false)], args := [d] }
  | _ => none }
def BasePartsWrongFalsely : Prop := basePartsRow.holds Try.pinned (OpenSpec.ofChange basePartsWrong)

/-- 'turnpikelaw03.BaseSums': WHATEVER THE INPUT: true; the input reads as it did. -/
def baseSumsSpec : ChangeSpec := { name := "baseSums", fn := fun _ => fun
  | [d] => { results := [.lit (.bool true)], args := [d] }
  | _ => none }
def baseSumsRow : OpenClaim := { program := "ytpehogkgiikjmaa", sum := "1c74cea6e64b9a18942538a74ca670f80bf056949bdcd842e231de0dfcf7b3ef", func := "turnpike/turnpikelaw03.BaseSums", spec := "baseSums", inPlace := ["internal/abi.NoEscape"], apart := false }
def BaseSumsSaid : Prop := baseSumsRow.holds Try.pinned (OpenSpec.ofChange baseSumsSpec)

/-- ITS FALSE NEIGHBOUR: 'it returns false'. Refute it at one input. -/
def baseSumsWrong : ChangeSpec := { name := "baseSums", fn := fun _ => fun
  | [d] => { results := [.lit (.bool false)], args := [d] }
  | _ => none }
def BaseSumsWrongFalsely : Prop := baseSumsRow.holds Try.pinned (OpenSpec.ofChange baseSumsWrong)

/-- 'turnpikelaw03.BaseAccepts': WHATEVER THE INPUT: true; the input reads as it did. -/
def baseAcceptsSpec : ChangeSpec := { name := "baseAccepts", fn := fun _ => fun
  | [d] => { results := [.lit (.bool true)], args := [d] }
  | _ => none }
def baseAcceptsRow : OpenClaim := { program := "ytpehogkgiikjmaa", sum := "1c74cea6e64b9a18942538a74ca670f80bf056949bdcd842e231de0dfcf7b3ef", func := "turnpike/turnpikelaw03.BaseAccepts", spec := "baseAccepts", inPlace := ["internal/bytealg.IndexByteString", "internal/abi.NoEscape"], apart := false }
def BaseAcceptsSaid : Prop := baseAcceptsRow.holds Try.pinned (OpenSpec.ofChange baseAcceptsSpec)

/-- ITS FALSE NEIGHBOUR: 'it returns false'. Refute it at one input. -/
def baseAcceptsWrong : ChangeSpec := { name := "baseAccepts", fn := fun _ => fun
  | [d] => { results := [.lit (.bool false)], args := [d] }
  | _ => none }
def BaseAcceptsWrongFalsely : Prop := baseAcceptsRow.holds Try.pinned (OpenSpec.ofChange baseAcceptsWrong)

/-- 'turnpikelaw03.BaseKeys': WHATEVER THE INPUT: true; the input reads as it did. -/
def baseKeysSpec : ChangeSpec := { name := "baseKeys", fn := fun _ => fun
  | [d] => { results := [.lit (.bool true)], args := [d] }
  | _ => none }
def baseKeysRow : OpenClaim := { program := "ytpehogkgiikjmaa", sum := "1c74cea6e64b9a18942538a74ca670f80bf056949bdcd842e231de0dfcf7b3ef", func := "turnpike/turnpikelaw03.BaseKeys", spec := "baseKeys", inPlace := ["internal/abi.NoEscape", "internal/bytealg.IndexByteString"], apart := false }
def BaseKeysSaid : Prop := baseKeysRow.holds Try.pinned (OpenSpec.ofChange baseKeysSpec)

/-- ITS FALSE NEIGHBOUR: 'it returns false'. Refute it at one input. -/
def baseKeysWrong : ChangeSpec := { name := "baseKeys", fn := fun _ => fun
  | [d] => { results := [.lit (.bool false)], args := [d] }
  | _ => none }
def BaseKeysWrongFalsely : Prop := baseKeysRow.holds Try.pinned (OpenSpec.ofChange baseKeysWrong)

/- THE SECOND FORM. 'bulk': how many values and letters a reading holds, each counted each time it is reached (what is shared counts as often as it is met; a slice's spare places count too). A statement '..UptoSaid' is the law's where the arguments, and the package variables that the reading takes, are together of bulk at most 1048576: NARROWER than '..Said'. Prove '..Said' where nothing that the law and all that it calls make is longer than what came in: it says more and counts as full. Else prove '..UptoSaid'. A law counts once. -/
mutual
def uptoBulk {H : Type} : DataW H → Nat
  | .lit (.string bytes) => bytes.length + 1
  | .lit _ => 1
  | .nil => 1
  | .ptr d => uptoBulk d + 1
  | .slice elems spare => uptoBulkAll elems + uptoBulkAll spare + 1
  | .agg parts => uptoBulkAll parts + 1
  | .iface _ d => uptoBulk d + 1
  | .map entries => uptoBulkEntries entries + 1
  | .held _ => 1
def uptoBulkAll {H : Type} : List (DataW H) → Nat
  | [] => 0
  | d :: r => uptoBulk d + uptoBulkAll r
def uptoBulkEntries {H : Type} : List (Lit × DataW H) → Nat
  | [] => 0
  | x :: r => uptoBulkEntry x + uptoBulkEntries r
def uptoBulkEntry {H : Type} : Lit × DataW H → Nat
  | (.string bytes, d) => bytes.length + uptoBulk d + 1
  | (_, d) => uptoBulk d + 1
 end
def uptoSmall : (H : Type) → List (DataW H) → Bool := fun _ ds => decide (uptoBulkAll ds ≤ 1048576)
def OpenSpec.upto (s : _root_.Go.ChangeSpec) : _root_.Go.OpenSpec := { _root_.Go.OpenSpec.ofChange s with cond := some uptoSmall }

/-- 'turnpikelaw03.BaseEncodes', WHERE WHAT IT READS IS OF BULK AT MOST 1048576: true; the input reads as it did. -/
def baseEncodesUptoRow : OpenClaim := { program := "ytpehogkgiikjmaa", sum := "1c74cea6e64b9a18942538a74ca670f80bf056949bdcd842e231de0dfcf7b3ef", func := "turnpike/turnpikelaw03.BaseEncodes", spec := "baseEncodes", inPlace := ["internal/abi.NoEscape"], apart := false, narrowed := true }
def BaseEncodesUptoSaid : Prop := baseEncodesUptoRow.holds Try.pinned (OpenSpec.upto baseEncodesSpec)

/-- 'turnpikelaw03.BaseTurns', WHERE WHAT IT READS IS OF BULK AT MOST 1048576: true; the input reads as it did. -/
def baseTurnsUptoRow : OpenClaim := { program := "ytpehogkgiikjmaa", sum := "1c74cea6e64b9a18942538a74ca670f80bf056949bdcd842e231de0dfcf7b3ef", func := "turnpike/turnpikelaw03.BaseTurns", spec := "baseTurns", inPlace := ["internal/abi.NoEscape"], apart := false, narrowed := true }
def BaseTurnsUptoSaid : Prop := baseTurnsUptoRow.holds Try.pinned (OpenSpec.upto baseTurnsSpec)

/-- 'turnpikelaw03.BaseUnhex', WHERE WHAT IT READS IS OF BULK AT MOST 1048576: true; the input reads as it did. -/
def baseUnhexUptoRow : OpenClaim := { program := "ytpehogkgiikjmaa", sum := "1c74cea6e64b9a18942538a74ca670f80bf056949bdcd842e231de0dfcf7b3ef", func := "turnpike/turnpikelaw03.BaseUnhex", spec := "baseUnhex", inPlace := ["internal/bytealg.IndexByteString", "internal/abi.NoEscape"], apart := false, narrowed := true }
def BaseUnhexUptoSaid : Prop := baseUnhexUptoRow.holds Try.pinned (OpenSpec.upto baseUnhexSpec)

/-- 'turnpikelaw03.BaseDecodes', WHERE WHAT IT READS IS OF BULK AT MOST 1048576: true; the input reads as it did. -/
def baseDecodesUptoRow : OpenClaim := { program := "ytpehogkgiikjmaa", sum := "1c74cea6e64b9a18942538a74ca670f80bf056949bdcd842e231de0dfcf7b3ef", func := "turnpike/turnpikelaw03.BaseDecodes", spec := "baseDecodes", inPlace := ["internal/bytealg.IndexByteString", "internal/abi.NoEscape"], apart := false, narrowed := true }
def BaseDecodesUptoSaid : Prop := baseDecodesUptoRow.holds Try.pinned (OpenSpec.upto baseDecodesSpec)

/-- 'turnpikelaw03.BaseBegins', WHERE WHAT IT READS IS OF BULK AT MOST 1048576: true; the input reads as it did. -/
def baseBeginsUptoRow : OpenClaim := { program := "ytpehogkgiikjmaa", sum := "1c74cea6e64b9a18942538a74ca670f80bf056949bdcd842e231de0dfcf7b3ef", func := "turnpike/turnpikelaw03.BaseBegins", spec := "baseBegins", inPlace := ["internal/bytealg.IndexByteString", "internal/abi.NoEscape"], apart := false, narrowed := true }
def BaseBeginsUptoSaid : Prop := baseBeginsUptoRow.holds Try.pinned (OpenSpec.upto baseBeginsSpec)

/-- 'turnpikelaw03.BaseBack', WHERE WHAT IT READS IS OF BULK AT MOST 1048576: true; the input reads as it did. -/
def baseBackUptoRow : OpenClaim := { program := "ytpehogkgiikjmaa", sum := "1c74cea6e64b9a18942538a74ca670f80bf056949bdcd842e231de0dfcf7b3ef", func := "turnpike/turnpikelaw03.BaseBack", spec := "baseBack", inPlace := ["internal/abi.NoEscape", "internal/bytealg.IndexByteString"], apart := false, narrowed := true }
def BaseBackUptoSaid : Prop := baseBackUptoRow.holds Try.pinned (OpenSpec.upto baseBackSpec)

/-- 'turnpikelaw03.BaseOnce', WHERE WHAT IT READS IS OF BULK AT MOST 1048576: true; the input reads as it did. -/
def baseOnceUptoRow : OpenClaim := { program := "ytpehogkgiikjmaa", sum := "1c74cea6e64b9a18942538a74ca670f80bf056949bdcd842e231de0dfcf7b3ef", func := "turnpike/turnpikelaw03.BaseOnce", spec := "baseOnce", inPlace := ["internal/bytealg.IndexByteString", "internal/abi.NoEscape"], apart := false, narrowed := true }
def BaseOnceUptoSaid : Prop := baseOnceUptoRow.holds Try.pinned (OpenSpec.upto baseOnceSpec)

/-- 'turnpikelaw03.BaseParts', WHERE WHAT IT READS IS OF BULK AT MOST 1048576: true; the input reads as it did. -/
def basePartsUptoRow : OpenClaim := { program := "ytpehogkgiikjmaa", sum := "1c74cea6e64b9a18942538a74ca670f80bf056949bdcd842e231de0dfcf7b3ef", func := "turnpike/turnpikelaw03.BaseParts", spec := "baseParts", inPlace := ["internal/abi.NoEscape"], apart := false, narrowed := true }
def BasePartsUptoSaid : Prop := basePartsUptoRow.holds Try.pinned (OpenSpec.upto basePartsSpec)

/-- 'turnpikelaw03.BaseSums', WHERE WHAT IT READS IS OF BULK AT MOST 1048576: true; the input reads as it did. -/
def baseSumsUptoRow : OpenClaim := { program := "ytpehogkgiikjmaa", sum := "1c74cea6e64b9a18942538a74ca670f80bf056949bdcd842e231de0dfcf7b3ef", func := "turnpike/turnpikelaw03.BaseSums", spec := "baseSums", inPlace := ["internal/abi.NoEscape"], apart := false, narrowed := true }
def BaseSumsUptoSaid : Prop := baseSumsUptoRow.holds Try.pinned (OpenSpec.upto baseSumsSpec)

/-- 'turnpikelaw03.BaseAccepts', WHERE WHAT IT READS IS OF BULK AT MOST 1048576: true; the input reads as it did. -/
def baseAcceptsUptoRow : OpenClaim := { program := "ytpehogkgiikjmaa", sum := "1c74cea6e64b9a18942538a74ca670f80bf056949bdcd842e231de0dfcf7b3ef", func := "turnpike/turnpikelaw03.BaseAccepts", spec := "baseAccepts", inPlace := ["internal/bytealg.IndexByteString", "internal/abi.NoEscape"], apart := false, narrowed := true }
def BaseAcceptsUptoSaid : Prop := baseAcceptsUptoRow.holds Try.pinned (OpenSpec.upto baseAcceptsSpec)

/-- 'turnpikelaw03.BaseKeys', WHERE WHAT IT READS IS OF BULK AT MOST 1048576: true; the input reads as it did. -/
def baseKeysUptoRow : OpenClaim := { program := "ytpehogkgiikjmaa", sum := "1c74cea6e64b9a18942538a74ca670f80bf056949bdcd842e231de0dfcf7b3ef", func := "turnpike/turnpikelaw03.BaseKeys", spec := "baseKeys", inPlace := ["internal/abi.NoEscape", "internal/bytealg.IndexByteString"], apart := false, narrowed := true }
def BaseKeysUptoSaid : Prop := baseKeysUptoRow.holds Try.pinned (OpenSpec.upto baseKeysSpec)

end Rows
end Go.Proofs.Ytpehogkgiikjmaa
