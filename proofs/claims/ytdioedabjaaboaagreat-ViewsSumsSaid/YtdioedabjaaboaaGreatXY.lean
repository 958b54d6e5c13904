/- Views: dead views; the law of views that no call made. -/
import Derived.Test.YtdioedabjaaboaaGreatXU
set_option linter.unusedVariables false
set_option linter.unusedSimpArgs false
namespace Go.Proofs.YtdioedabjaaboaaGreat.V
open Go Go.VL

theorem fits_nosum {w : Wv} (hk : w.kind ≠ 3) (P : List Pr) : fitsQ w P = true := by
  rw [fitsQ_iff]
  intro g _
  have hz : ∀ p : Pr, numberF w p.2 = 0 := fun p => by unfold numberF; rw [if_neg hk]
  have h1 : ∀ Q : List Pr, sH w Q = 0 := fun Q => by
    unfold sH
    induction Q with
    | nil => rfl
    | cons p Q ih => rw [List.map_cons, List.sum_cons, ih, hz]; decide
  have h2 : ∀ Q : List Pr, sL w Q = 0 := fun Q => by
    unfold sL
    induction Q with
    | nil => rfl
    | cons p Q ih => rw [List.map_cons, List.sum_cons, ih, hz]; decide +kernel
  unfold sumOf
  rw [h1, h2]
  decide +kernel
end Go.Proofs.YtdioedabjaaboaaGreat.V
