/- Maps: the law of checks. -/
import Derived.Test.YtdioedabjaaboaaGreatKI
set_option linter.unusedVariables false
set_option linter.unusedSimpArgs false
namespace Go.Proofs.YtdioedabjaaboaaGreat.V
open Go Go.VL

end Go.Proofs.YtdioedabjaaboaaGreat.V
