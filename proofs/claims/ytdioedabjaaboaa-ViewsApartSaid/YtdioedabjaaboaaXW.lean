/- Views: what the arguments' readings are. -/
import Derived.Test.YtdioedabjaaboaaXQ
import Derived.OpenShut
set_option linter.unusedVariables false
set_option linter.unusedSimpArgs false
namespace Go.Proofs.Ytdioedabjaaboaa.V
open Go Go.VL

theorem one_of {n : Nat} {cs : List PV} (h : Go.VL.WT C (n + 1) 3 cs) : ∃ x, cs = [.int .i64 x] := by
  unfold Go.VL.WT at h
  simp only [CT, T3] at h
  obtain ⟨x, rfl, hw⟩ := h
  exact ⟨x, rfl⟩
theorem bool1_of {n : Nat} {cs : List PV} (h : Go.VL.WT C (n + 1) 4 cs) : ∃ x, cs = [.bool x] := by
  unfold Go.VL.WT at h
  simp only [CT, T4] at h
  exact h
theorem str1_of {n : Nat} {cs : List PV} (h : Go.VL.WT C (n + 1) 9 cs) : ∃ s : ByteArray, cs = [.str s] := by
  unfold Go.VL.WT at h
  simp only [CT, T9] at h
  obtain ⟨s, hs, _⟩ := h
  exact ⟨s, hs⟩
theorem op_of {n : Nat} {cs : List PV} (h : Go.VL.WT C (n + 3) 59 cs) : ∃ d : KO, cs = encO d := by
  unfold Go.VL.WT at h
  simp only [CT, T59] at h
  obtain ⟨hl, hf⟩ := h
  match cs, hl with
  | [a, b, c], _ =>
    obtain ⟨x, hx⟩ := str1_of (hf (0, 9, 1) (by simp))
    obtain ⟨y, hy⟩ := bool1_of (hf (1, 4, 1) (by simp))
    obtain ⟨z, hz⟩ := str1_of (hf (2, 9, 1) (by simp))
    simp at hx hy hz
    subst hx; subst hy; subst hz
    exact ⟨⟨x, y, z⟩, rfl⟩
theorem ops1_of {n : Nat} {cs : List PV} (h : Go.VL.WT C (n + 4) 26 cs) : ∃ l : List KO, cs = [.sl .no 3 (encOs l)] := by
  unfold Go.VL.WT at h
  simp only [CT, T26] at h
  obtain ⟨sz, rows, hsz, hp, _, hr⟩ := h
  simp only [CT, T59, Option.map_some, Option.some.injEq] at hsz
  subst hsz
  have key : ∀ rows : List (List PV), (∀ r ∈ rows, Go.VL.WT C (n + 3) 59 r) → ∃ l : List KO, rows = encOs l := by
    intro rows
    induction rows with
    | nil => exact fun _ => ⟨[], rfl⟩
    | cons r rows ih =>
      intro hr
      obtain ⟨d, rfl⟩ := ih fun r' hr' => hr r' (List.mem_cons_of_mem _ hr')
      obtain ⟨x, rfl⟩ := op_of (hr r (List.mem_cons_self ..))
      exact ⟨x :: d, rfl⟩
  obtain ⟨d, rfl⟩ := key rows hr
  exact ⟨d, hp⟩
theorem view_of {n : Nat} {cs : List PV} (h : Go.VL.WT C (n + 2) 24 cs) : ∃ w : Wv, cs = encW w := by
  unfold Go.VL.WT at h
  simp only [CT, T24] at h
  obtain ⟨hl, hf⟩ := h
  match cs, hl with
  | [a, b, c, d], _ =>
    obtain ⟨x0, h0⟩ := str1_of (hf (0, 9, 1) (by simp))
    obtain ⟨x1, h1⟩ := one_of (hf (1, 3, 1) (by simp))
    obtain ⟨x2, h2⟩ := str1_of (hf (2, 9, 1) (by simp))
    obtain ⟨x3, h3⟩ := str1_of (hf (3, 9, 1) (by simp))
    simp at h0 h1 h2 h3
    subst h0; subst h1; subst h2; subst h3
    exact ⟨⟨x0, x1, x2, x3⟩, rfl⟩
theorem viewA_of {p : PV} (h : WTA C 6 24 p) : ∃ w : Wv, p = .agg (encW w) := by
  unfold WTA at h
  simp only [CT, T24] at h
  obtain ⟨cs, hp, hw⟩ := h
  obtain ⟨d, rfl⟩ := view_of (n := 4) hw
  exact ⟨d, hp⟩
theorem do_of {n : Nat} {cs : List PV} (h : Go.VL.WT C (n + 5) 28 cs) : ∃ d : DV, cs = encDv d := by
  unfold Go.VL.WT at h
  simp only [CT, T28] at h
  obtain ⟨hl, hf⟩ := h
  match cs, hl with
  | [a, b, c, d, e, f], _ =>
    obtain ⟨x0, h0⟩ := one_of (hf (0, 3, 1) (by simp))
    obtain ⟨x1, h1⟩ := ops1_of (hf (1, 26, 1) (by simp))
    obtain ⟨x2, h2⟩ := view_of (hf (2, 24, 4) (by simp))
    simp [encW] at h0 h1 h2
    obtain ⟨z0, z1, z2, z3⟩ := h2
    subst h0; subst h1; subst z0; subst z1; subst z2; subst z3
    exact ⟨⟨x0, x1, x2⟩, rfl⟩
theorem doA_of {p : PV} (h : WTA C 6 28 p) : ∃ d : DV, p = .agg (encDv d) := by
  unfold WTA at h
  simp only [CT, T28] at h
  obtain ⟨cs, hp, hw⟩ := h
  obtain ⟨d, rfl⟩ := do_of (n := 1) hw
  exact ⟨d, hp⟩
theorem dosA_of {p : PV} (h : WTA C 6 22 p) : ∃ l : List DV, p = .sl .no 6 (encDvs l) := by
  unfold WTA at h
  simp only [CT, T22] at h
  unfold Go.VL.WT at h
  simp only [CT, T22] at h
  obtain ⟨sz, rows, hsz, hp, _, hr⟩ := h
  simp only [CT, T28, Option.map_some, Option.some.injEq] at hsz
  subst hsz
  have key : ∀ rows : List (List PV), (∀ r ∈ rows, Go.VL.WT C 5 28 r) → ∃ l : List DV, rows = encDvs l := by
    intro rows
    induction rows with
    | nil => exact fun _ => ⟨[], rfl⟩
    | cons r rows ih =>
      intro hr
      obtain ⟨d, rfl⟩ := ih fun r' hr' => hr r' (List.mem_cons_of_mem _ hr')
      obtain ⟨x, rfl⟩ := do_of (n := 0) (hr r (List.mem_cons_self ..))
      exact ⟨x :: d, rfl⟩
  obtain ⟨d, rfl⟩ := key rows hr
  injection hp with hp
  exact ⟨d, hp⟩
theorem dosZ_of {p : PV} (h : WTA C 6 22 p) : ∃ l : List DV, p = .sl .no 6 (encDvs l) ∧ l.length ≤ 1599289640354 := by
  have h0 := h
  unfold WTA at h
  simp only [CT, T22] at h
  unfold Go.VL.WT at h
  simp only [CT, T22] at h
  obtain ⟨sz, rows, hsz, hp, ⟨_, hb⟩, hr⟩ := h
  have hb := hb _ T28
  dsimp only at hb
  obtain ⟨l, hl⟩ := dosA_of h0
  injection hp with hp
  refine ⟨l, hl, ?_⟩
  rw [hl] at hp
  injection hp with _ _ hp
  rw [← hp, len_encDvs] at hb
  unfold reachBytes at hb
  omega
theorem plain24 : plainT C.T 6 24 = true := by decide +kernel
theorem plain22 : plainT C.T 6 22 = true := by decide +kernel
theorem plain28 : plainT C.T 6 28 = true := by decide +kernel
end Go.Proofs.Ytdioedabjaaboaa.V
