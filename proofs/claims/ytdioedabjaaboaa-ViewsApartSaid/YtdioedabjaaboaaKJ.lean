/- Maps: the law of checks. -/
import Derived.Test.YtdioedabjaaboaaKI
set_option linter.unusedVariables false
set_option linter.unusedSimpArgs false
namespace Go.Proofs.Ytdioedabjaaboaa.V
open Go Go.VL

end Go.Proofs.Ytdioedabjaaboaa.V
