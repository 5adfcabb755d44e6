/- What the listed variables hold: strconv's powers of ten. No conditions. -/
import Derived.Test.YtdlpbpikhmciaaaGreatDoorHdD
import Derived.Test.YtdlpbpikhmciaaaGreatDoorLaidSg
namespace Go.Proofs.YtdlpbpikhmciaaaGreatDoor
open Go.RowKit
set_option linter.unusedSimpArgs false
set_option linter.unusedVariables false
theorem gPowType : (Tryz.prog.globals[1]?).map (·.type) = some 242 := by kernel_rfl
theorem pow_data : (Rows.laid_internal_strconv_uint64pow10 : DataW Unit) = Lib.tabData .u64 Lib.pow10Tab := rfl
theorem pow_of_laid {W : World} {l : List (String × DataW Unit)} (hm : ("internal/strconv.uint64pow10", (Rows.laid_internal_strconv_uint64pow10 : DataW Unit)) ∈ l) (h : laidMet Tryz.prog l W) : PowAt W :=
  tab_of_mem gPow gPowType Tryz.underlying242 Tryz.underlying204 (by kernel_rfl) (by kernel_rfl) (by rw [← pow_data]; exact hm) h
end Go.Proofs.YtdlpbpikhmciaaaGreatDoor
