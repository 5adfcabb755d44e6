/- Qualities printed and read back: plain, by going over all of them. No program is named. No conditions. -/
import Derived.Test.YthnniiakmjonjaaDoorRPrq
namespace Go.Proofs.YthnniiakmjonjaaDoor
open Go.RowKit
set_option linter.unusedSimpArgs false
set_option linter.unusedVariables false
set_option maxRecDepth 1000000
theorem tho_all : ∀ n : Fin 1001, (quR (pqR (n.val : Int)).1 == (n.val, 0) && (!(pqR (n.val : Int)).1.isEmpty && (quR (pqR (n.val : Int)).1.dropLast != (n.val, 0)))) = true := by decide +kernel
end Go.Proofs.YthnniiakmjonjaaDoor
