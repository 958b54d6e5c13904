/- Trees: readings with bounds. -/
import Derived.Test.YtmedhhjbknnfkaaTW
set_option linter.unusedVariables false
set_option linter.unusedSimpArgs false
namespace Go.Proofs.Ytmedhhjbknnfkaa.V
open Go Go.VL

theorem str1Z_of {n : Nat} {cs : List PV} (h : WT C (n + 1) 9 cs) : ∃ s : ByteArray, cs = [.str s] ∧ s.size ≤ reachBytes := by
  unfold WT at h
  simp only [CT, T9] at h
  exact h
theorem doZ_of {n : Nat} {cs : List PV} (h : WT C (n + 3) 27 cs) : ∃ d : Do, cs = encDo d ∧ d.k.size ≤ reachBytes := by
  unfold WT at h
  simp only [CT, T27] at h
  obtain ⟨hl, hf⟩ := h
  match cs, hl with
  | [a, b, c], _ =>
    obtain ⟨x, hx⟩ := one_of (hf (0, 3, 1) (by simp))
    obtain ⟨y, hy, hz⟩ := str1Z_of (hf (1, 9, 1) (by simp))
    obtain ⟨z, hz2⟩ := str1_of (hf (2, 9, 1) (by simp))
    simp at hx hy hz2
    subst hx; subst hy; subst hz2
    exact ⟨⟨x, y, z⟩, rfl, hz⟩
theorem dosZ_of {p : PV} (h : WTA C 6 22 p) : ∃ l : List Do, p = .sl .no 3 (encDos l) ∧ ∀ d ∈ l, d.k.size ≤ reachBytes := by
  unfold WTA at h
  simp only [CT, T22] at h
  unfold WT at h
  simp only [CT, T22] at h
  obtain ⟨sz, rows, hsz, hp, _, hr⟩ := h
  simp only [CT, T27, Option.map_some, Option.some.injEq] at hsz
  subst hsz
  have key : ∀ rows : List (List PV), (∀ r ∈ rows, WT C 5 27 r) → ∃ l : List Do, rows = encDos l ∧ ∀ d ∈ l, d.k.size ≤ reachBytes := by
    intro rows
    induction rows with
    | nil => exact fun _ => ⟨[], rfl, by simp⟩
    | cons r rows ih =>
      intro hr
      obtain ⟨d, rfl, hd⟩ := ih fun r' hr' => hr r' (List.mem_cons_of_mem _ hr')
      obtain ⟨x, rfl, hx⟩ := doZ_of (n := 2) (hr r (List.mem_cons_self ..))
      refine ⟨x :: d, rfl, fun y hy => ?_⟩
      rcases List.mem_cons.1 hy with rfl | hy
      · exact hx
      · exact hd y hy
  obtain ⟨d, rfl, hd⟩ := key rows hr
  injection hp with hp
  exact ⟨d, hp, hd⟩
theorem doA_of {p : PV} (h : WTA C 6 27 p) : ∃ d : Do, p = .agg (encDo d) := by
  unfold WTA at h
  simp only [CT, T27] at h
  obtain ⟨cs, hp, hw⟩ := h
  obtain ⟨d, rfl⟩ := do_of (n := 3) hw
  exact ⟨d, hp⟩
theorem plain27 : plainT C.T 6 27 = true := by decide +kernel
end Go.Proofs.Ytmedhhjbknnfkaa.V
