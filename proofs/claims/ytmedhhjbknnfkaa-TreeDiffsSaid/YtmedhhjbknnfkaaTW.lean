/- Trees: what the arguments' readings are, as plain lists. -/
import Derived.Test.YtmedhhjbknnfkaaTU
import Derived.OpenShut
set_option linter.unusedVariables false
set_option linter.unusedSimpArgs false
namespace Go.Proofs.Ytmedhhjbknnfkaa.V
open Go Go.VL

theorem wf64 {x : Int} (h : (Lit.int .i64 x).wf = true) : -9223372036854775808 ≤ x ∧ x ≤ 9223372036854775807 := by
  have := Go.bounds_i64 h
  omega
theorem int_of {p : PV} (h : WTA C 6 3 p) : ∃ x, p = .int .i64 x ∧ (-9223372036854775808 ≤ x ∧ x ≤ 9223372036854775807) := by
  unfold WTA at h
  simp only [CT, T3] at h
  unfold WT at h
  simp only [CT, T3] at h
  obtain ⟨x, hx, hw⟩ := h
  injection hx with hx
  exact ⟨x, hx, wf64 hw⟩
theorem one_of {n : Nat} {cs : List PV} (h : WT C (n + 1) 3 cs) : ∃ x, cs = [.int .i64 x] := by
  unfold WT at h
  simp only [CT, T3] at h
  obtain ⟨x, rfl, hw⟩ := h
  exact ⟨x, rfl⟩
theorem str1_of {n : Nat} {cs : List PV} (h : WT C (n + 1) 9 cs) : ∃ s : ByteArray, cs = [.str s] := by
  unfold WT at h
  simp only [CT, T9] at h
  obtain ⟨s, hs, _⟩ := h
  exact ⟨s, hs⟩
theorem str_of {p : PV} (h : WTA C 6 9 p) : ∃ s : ByteArray, p = .str s := by
  unfold WTA at h
  simp only [CT, T9] at h
  obtain ⟨s, hs⟩ := str1_of (n := 5) h
  injection hs with hs
  exact ⟨s, hs⟩
theorem do_of {n : Nat} {cs : List PV} (h : WT C (n + 3) 27 cs) : ∃ d : Do, cs = encDo d := by
  unfold WT at h
  simp only [CT, T27] at h
  obtain ⟨hl, hf⟩ := h
  match cs, hl with
  | [a, b, c], _ =>
    obtain ⟨x, hx⟩ := one_of (hf (0, 3, 1) (by simp))
    obtain ⟨y, hy⟩ := str1_of (hf (1, 9, 1) (by simp))
    obtain ⟨z, hz⟩ := str1_of (hf (2, 9, 1) (by simp))
    simp at hx hy hz
    subst hx; subst hy; subst hz
    exact ⟨⟨x, y, z⟩, rfl⟩
theorem dosA_of {p : PV} (h : WTA C 6 22 p) : ∃ l : List Do, p = .sl .no 3 (encDos l) := by
  unfold WTA at h
  simp only [CT, T22] at h
  unfold WT at h
  simp only [CT, T22] at h
  obtain ⟨sz, rows, hsz, hp, _, hr⟩ := h
  simp only [CT, T27, Option.map_some, Option.some.injEq] at hsz
  subst hsz
  have key : ∀ rows : List (List PV), (∀ r ∈ rows, WT C 5 27 r) → ∃ l : List Do, rows = encDos l := by
    intro rows
    induction rows with
    | nil => exact fun _ => ⟨[], rfl⟩
    | cons r rows ih =>
      intro hr
      obtain ⟨d, rfl⟩ := ih fun r' hr' => hr r' (List.mem_cons_of_mem _ hr')
      obtain ⟨x, rfl⟩ := do_of (n := 2) (hr r (List.mem_cons_self ..))
      exact ⟨x :: d, rfl⟩
  obtain ⟨d, rfl⟩ := key rows hr
  injection hp with hp
  exact ⟨d, hp⟩
theorem plain3 : plainT C.T 6 3 = true := by decide +kernel
theorem plain9 : plainT C.T 6 9 = true := by decide +kernel
theorem plain22 : plainT C.T 6 22 = true := by decide +kernel
end Go.Proofs.Ytmedhhjbknnfkaa.V
