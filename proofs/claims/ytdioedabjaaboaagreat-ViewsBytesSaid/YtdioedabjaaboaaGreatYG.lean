/- Views: the document's numbers, walked. -/
import Derived.Test.YtdioedabjaaboaaGreatYB
set_option linter.unusedVariables false
set_option linter.unusedSimpArgs false
namespace Go.Proofs.YtdioedabjaaboaaGreat.V
open Go Go.VL

end Go.Proofs.YtdioedabjaaboaaGreat.V
namespace Go.Proofs.YtdioedabjaaboaaGreat.V
open Go Go.VL

end Go.Proofs.YtdioedabjaaboaaGreat.V
namespace Go.Proofs.YtdioedabjaaboaaGreat.V
open Go Go.VL

/-- Texts that are not long. -/
def FitW (w : Wv) : Prop := w.name.size ≤ 140737488355328 ∧ w.field.size ≤ 140737488355328 ∧ w.of_.size ≤ 140737488355328
end Go.Proofs.YtdioedabjaaboaaGreat.V
namespace Go.Proofs.YtdioedabjaaboaaGreat.V
open Go Go.VL

end Go.Proofs.YtdioedabjaaboaaGreat.V
namespace Go.VL
/-- How many rows. -/
def rl : PV → Nat
 | .sl _ _ rows => rows.length
 | _ => 0
end Go.VL
namespace Go.Proofs.YtdioedabjaaboaaGreat.V
open Go Go.VL

def in64 (x : Int) : Prop := -9223372036854775808 ≤ x ∧ x ≤ 9223372036854775807
instance (x : Int) : Decidable (in64 x) := by unfold in64; exact inferInstance
end Go.Proofs.YtdioedabjaaboaaGreat.V
