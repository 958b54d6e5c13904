/- Maps: readings of numbers. -/
import Derived.Test.YtmplfmhcpkmpbaaKOR
set_option linter.unusedVariables false
set_option linter.unusedSimpArgs false
namespace Go.Proofs.Ytmplfmhcpkmpbaa.V
open Go Go.VL
theorem intsA_of {p : PV} (h : WTA C 6 51 p) : ∃ l : List Int, p = .sl .no 1 (encI l) := by
  unfold WTA at h
  simp only [CT, T51] at h
  unfold WT at h
  simp only [CT, T51] at h
  obtain ⟨sz, rows, hsz, hp, _, hr⟩ := h
  simp only [CT, T3, Option.map_some, Option.some.injEq] at hsz
  subst hsz
  have key : ∀ rows : List (List PV), (∀ r ∈ rows, WT C 5 3 r) → ∃ l : List Int, rows = encI l := by
    intro rows
    induction rows with
    | nil => exact fun _ => ⟨[], rfl⟩
    | cons r rows ih =>
      intro hr
      obtain ⟨d, rfl⟩ := ih fun r' hr' => hr r' (List.mem_cons_of_mem _ hr')
      obtain ⟨x, rfl⟩ := one_of (n := 4) (hr r (List.mem_cons_self ..))
      exact ⟨x :: d, rfl⟩
  obtain ⟨d, rfl⟩ := key rows hr
  injection hp with hp
  exact ⟨d, hp⟩
theorem plain51 : plainT C.T 6 51 = true := by decide +kernel
end Go.Proofs.Ytmplfmhcpkmpbaa.V
