/- A list of parameters in memory, wherever it stands. No program is named. No conditions. -/
import Derived.Test.YtgkpiakapdgglaaDoorLawSPairs
namespace Go.Proofs.YtgkpiakapdgglaaDoor
open Go.RowKit
set_option linter.unusedSimpArgs false
set_option linter.unusedVariables false
end Go.Proofs.YtgkpiakapdgglaaDoor
