/- Views: what a list of views' reading is. -/
import Derived.Test.YtdioedabjaaboaaXW
import Derived.Test.YtdioedabjaaboaaXP2
set_option linter.unusedVariables false
set_option linter.unusedSimpArgs false
namespace Go.Proofs.Ytdioedabjaaboaa.V
open Go Go.VL

theorem viewsA_of {p : PV} (h : WTA C 6 46 p) : ∃ l : List Wv, p = .sl .no 4 (encWs l) := by
  unfold WTA at h
  simp only [CT, T46] at h
  unfold Go.VL.WT at h
  simp only [CT, T46] at h
  obtain ⟨sz, rows, hsz, hp, _, hr⟩ := h
  simp only [CT, T24, Option.map_some, Option.some.injEq] at hsz
  subst hsz
  have key : ∀ rows : List (List PV), (∀ r ∈ rows, Go.VL.WT C 5 24 r) → ∃ l : List Wv, rows = encWs l := by
    intro rows
    induction rows with
    | nil => exact fun _ => ⟨[], rfl⟩
    | cons r rows ih =>
      intro hr
      obtain ⟨d, rfl⟩ := ih fun r' hr' => hr r' (List.mem_cons_of_mem _ hr')
      obtain ⟨x, rfl⟩ := view_of (n := 3) (hr r (List.mem_cons_self ..))
      exact ⟨x :: d, rfl⟩
  obtain ⟨d, rfl⟩ := key rows hr
  injection hp with hp
  exact ⟨d, hp⟩
theorem plain46 : plainT C.T 6 46 = true := by decide +kernel
end Go.Proofs.Ytdioedabjaaboaa.V
