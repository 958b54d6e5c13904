/- Views: a list of rows is like itself. -/
import Derived.Test.YtdioedabjaaboaaGreatXQ
set_option linter.unusedVariables false
set_option linter.unusedSimpArgs false
namespace Go.Proofs.YtdioedabjaaboaaGreat.V
open Go Go.VL

theorem neI (x : Int) : (x != x) = false := by simp
end Go.Proofs.YtdioedabjaaboaaGreat.V
