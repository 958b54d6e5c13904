/- Views: what the arguments' readings are. -/
import Derived.Test.YtdioedabjaaboaaGreatYJ
import Derived.OpenShut
set_option linter.unusedVariables false
set_option linter.unusedSimpArgs false
namespace Go.Proofs.YtdioedabjaaboaaGreat.V
open Go Go.VL

theorem rb_le {n : Nat} (h : n ≤ reachBytes) : n ≤ 140737488355328 := by unfold reachBytes at h; omega
theorem bool1_of {n : Nat} {cs : List PV} (h : Go.VL.WT C (n + 1) 4 cs) : ∃ x, cs = [.bool x] := by
  unfold Go.VL.WT at h
  simp only [CT, T4] at h
  exact h
theorem str1_of {n : Nat} {cs : List PV} (h : Go.VL.WT C (n + 1) 9 cs) : ∃ s : ByteArray, cs = [.str s] ∧ s.size ≤ 140737488355328 := by
  unfold Go.VL.WT at h
  simp only [CT, T9] at h
  obtain ⟨s, hs, hz⟩ := h
  exact ⟨s, hs, rb_le hz⟩
theorem op_of {n : Nat} {cs : List PV} (h : Go.VL.WT C (n + 3) 26 cs) : ∃ d : KO, cs = encO d := by
  unfold Go.VL.WT at h
  simp only [CT, T26] at h
  obtain ⟨hl, hf⟩ := h
  match cs, hl with
  | [a, b, c], _ =>
    obtain ⟨x, hx, _⟩ := str1_of (hf (0, 9, 1) (by simp))
    obtain ⟨y, hy⟩ := bool1_of (hf (1, 4, 1) (by simp))
    obtain ⟨z, hz, _⟩ := str1_of (hf (2, 9, 1) (by simp))
    simp at hx hy hz
    subst hx; subst hy; subst hz
    exact ⟨⟨x, y, z⟩, rfl⟩
theorem ops1_of {n : Nat} {cs : List PV} (h : Go.VL.WT C (n + 4) 23 cs) : ∃ l : List KO, cs = [.sl .no 3 (encOs l)] := by
  unfold Go.VL.WT at h
  simp only [CT, T23] at h
  obtain ⟨sz, rows, hsz, hp, _, hr⟩ := h
  simp only [CT, T26, Option.map_some, Option.some.injEq] at hsz
  subst hsz
  have key : ∀ rows : List (List PV), (∀ r ∈ rows, Go.VL.WT C (n + 3) 26 r) → ∃ l : List KO, rows = encOs l := by
    intro rows
    induction rows with
    | nil => exact fun _ => ⟨[], rfl⟩
    | cons r rows ih =>
      intro hr
      obtain ⟨d, rfl⟩ := ih fun r' hr' => hr r' (List.mem_cons_of_mem _ hr')
      obtain ⟨x, rfl⟩ := op_of (hr r (List.mem_cons_self ..))
      exact ⟨x :: d, rfl⟩
  obtain ⟨d, rfl⟩ := key rows hr
  exact ⟨d, hp⟩
theorem opsA_of {p : PV} (h : WTA C 6 23 p) : ∃ l : List KO, p = .sl .no 3 (encOs l) := by
  unfold WTA at h
  simp only [CT, T23] at h
  obtain ⟨l, hl⟩ := ops1_of (n := 2) h
  injection hl with hl
  exact ⟨l, hl⟩
theorem strA_of {p : PV} (h : WTA C 6 9 p) : ∃ s : ByteArray, p = .str s ∧ s.size ≤ 140737488355328 := by
  unfold WTA at h
  simp only [CT, T9] at h
  obtain ⟨l, hl, hz⟩ := str1_of (n := 5) h
  injection hl with hl
  exact ⟨l, hl, hz⟩
theorem strsA_of {p : PV} (h : WTA C 6 22 p) : ∃ l : List ByteArray, p = .sl .no 1 (encS l) ∧ l.length ≤ 140737488355328 := by
  unfold WTA at h
  simp only [CT, T22] at h
  unfold Go.VL.WT at h
  simp only [CT, T22] at h
  obtain ⟨sz, rows, hsz, hp, ⟨_, hb⟩, hr⟩ := h
  simp only [CT, T9, Option.map_some, Option.some.injEq] at hsz
  subst hsz
  have hb := hb _ T9
  dsimp only at hb
  have key : ∀ rows : List (List PV), (∀ r ∈ rows, Go.VL.WT C 5 9 r) → ∃ l : List ByteArray, rows = encS l := by
    intro rows
    induction rows with
    | nil => exact fun _ => ⟨[], rfl⟩
    | cons r rows ih =>
      intro hr
      obtain ⟨d, rfl⟩ := ih fun r' hr' => hr r' (List.mem_cons_of_mem _ hr')
      obtain ⟨x, rfl, _⟩ := str1_of (n := 4) (hr r (List.mem_cons_self ..))
      exact ⟨x :: d, rfl⟩
  obtain ⟨d, rfl⟩ := key rows hr
  injection hp with hp
  refine ⟨d, hp, ?_⟩
  rw [len_encS] at hb
  unfold reachBytes at hb
  omega
theorem intA_of {p : PV} (h : WTA C 6 3 p) : ∃ x : Int, p = .int .i64 x ∧ -9223372036854775808 ≤ x ∧ x ≤ 9223372036854775807 := by
  unfold WTA at h
  simp only [CT, T3] at h
  unfold Go.VL.WT at h
  simp only [CT, T3] at h
  obtain ⟨x, hl, hw⟩ := h
  injection hl with hl
  refine ⟨x, hl, ?_⟩
  simpa [Lit.wf, IntKind.min, IntKind.bits, IntKind.signed] using hw
theorem plain23 : plainT C.T 6 23 = true := by decide +kernel
theorem plain22 : plainT C.T 6 22 = true := by decide +kernel
theorem plain9 : plainT C.T 6 9 = true := by decide +kernel
theorem plain3 : plainT C.T 6 3 = true := by decide +kernel
end Go.Proofs.YtdioedabjaaboaaGreat.V
