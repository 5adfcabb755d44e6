/- The row of HandlePlains. Conditions: what is read is small. -/
import Derived.Test.YtdlpbpikhmciaaaGreatDoorLawHPl
import Derived.Test.YtdlpbpikhmciaaaGreatDoorOpenFlds
import Derived.Test.YtdlpbpikhmciaaaGreatDoorLaidPow
import Derived.LaidHandle
import Derived.LaidSub
namespace Go.Proofs.YtdlpbpikhmciaaaGreatDoor
open Go.RowKit
set_option linter.unusedVariables false
theorem int_wf {n : Int} (h : (Lit.int .i64 n).wf = true) : -9223372036854775808 ≤ n ∧ n ≤ 9223372036854775807 := by
  simp only [Lit.wf, Bool.and_eq_true, decide_eq_true_eq] at h
  have h1 : IntKind.i64.min = -9223372036854775808 := by decide
  have h2 : IntKind.i64.max = 9223372036854775807 := by decide
  omega
theorem handlePlains_row (st : Int) (v : Value) (l : List Fld) (W : World) (hL : laidMetH Tryz.prog Rows.handlePlainsUptoRow.laid W) (hsh : W.ShapedOpen Tryz.prog) (hs : totF l + l.length ≤ 1048576) (h : FldsIn W v l) (hw : (Lit.int .i64 st).wf = true) :
    Calls Tryz.prog 5 #[.int .i64 st, v] W fun e W' => e = .returned (.bool true) ∧ Below W.heap.size W W' :=
  handlePlains_any st v l W (int_wf hw).1 (int_wf hw).2 hs (pow_of_laid (l := Rows.handlePlainsUptoRow.laid.filter fun x => x.2.handleName?.isNone) (List.mem_filter.2 ⟨by simp [Rows.handlePlainsUptoRow], rfl⟩) (laidMetH_iff.1 hL).1) h
end Go.Proofs.YtdlpbpikhmciaaaGreatDoor
