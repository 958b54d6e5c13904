/- Views: dead views; the law of views that no call made. -/
import Derived.Test.YtdioedabjaaboaaGreatXU
set_option linter.unusedVariables false
set_option linter.unusedSimpArgs false
namespace Go.Proofs.YtdioedabjaaboaaGreat.V
open Go Go.VL

end Go.Proofs.YtdioedabjaaboaaGreat.V
namespace Go.VL
open Go
end Go.VL
namespace Go.Proofs.YtdioedabjaaboaaGreat.V
open Go Go.VL

end Go.Proofs.YtdioedabjaaboaaGreat.V
namespace Go.Proofs.YtdioedabjaaboaaGreat.V
open Go Go.VL

end Go.Proofs.YtdioedabjaaboaaGreat.V
