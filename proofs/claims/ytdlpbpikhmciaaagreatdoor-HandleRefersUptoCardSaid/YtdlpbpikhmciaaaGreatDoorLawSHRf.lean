/- The row of HandleRefers. Conditions: what is read is small. -/
import Derived.Test.YtdlpbpikhmciaaaGreatDoorLawHRf
import Derived.Test.YtdlpbpikhmciaaaGreatDoorOpenPars
namespace Go.Proofs.YtdlpbpikhmciaaaGreatDoor
open Go.RowKit
set_option linter.unusedVariables false
theorem handleRefers_row (s : ByteArray) (v : Value) (l : List Par) (W : World) (hL : laidMetH Tryz.prog Rows.handleRefersUptoRow.laid W) (hsh : W.ShapedOpen Tryz.prog) (hs : s.size + (totP l + l.length) ≤ 1048576) (h : ParsIn W v l) :
    Calls Tryz.prog 4 #[.string s, v] W fun e W' => e = .returned (.bool true) ∧ Below W.heap.size W W' :=
  handleRefers_any s v l W (by omega) (by omega) h
end Go.Proofs.YtdlpbpikhmciaaaGreatDoor
