/- Views: what the arguments' readings are. -/
import Derived.Test.YtdioedabjaaboaaGreatYJ
import Derived.OpenShut
set_option linter.unusedVariables false
set_option linter.unusedSimpArgs false
namespace Go.Proofs.YtdioedabjaaboaaGreat.V
open Go Go.VL

theorem rb_le {n : Nat} (h : n ≤ reachBytes) : n ≤ 140737488355328 := by unfold reachBytes at h; omega
theorem one_of {n : Nat} {cs : List PV} (h : Go.VL.WT C (n + 1) 3 cs) : ∃ x, cs = [.int .i64 x] := by
 unfold Go.VL.WT at h
 simp only [CT, T3] at h
 obtain ⟨x, rfl, hw⟩ := h
 exact ⟨x, rfl⟩
theorem bool1_of {n : Nat} {cs : List PV} (h : Go.VL.WT C (n + 1) 4 cs) : ∃ x, cs = [.bool x] := by
 unfold Go.VL.WT at h
 simp only [CT, T4] at h
 exact h
theorem str1_of {n : Nat} {cs : List PV} (h : Go.VL.WT C (n + 1) 9 cs) : ∃ s : ByteArray, cs = [.str s] ∧ s.size ≤ 140737488355328 := by
 unfold Go.VL.WT at h
 simp only [CT, T9] at h
 obtain ⟨s, hs, hz⟩ := h
 exact ⟨s, hs, rb_le hz⟩
theorem op_of {n : Nat} {cs : List PV} (h : Go.VL.WT C (n + 3) 26 cs) : ∃ d : KO, cs = encO d := by
 unfold Go.VL.WT at h
 simp only [CT, T26] at h
 obtain ⟨hl, hf⟩ := h
 match cs, hl with
 | [a, b, c], _ =>
  obtain ⟨x, hx, _⟩ := str1_of (hf (0, 9, 1) (by simp))
  obtain ⟨y, hy⟩ := bool1_of (hf (1, 4, 1) (by simp))
  obtain ⟨z, hz, _⟩ := str1_of (hf (2, 9, 1) (by simp))
  simp at hx hy hz
  subst hx; subst hy; subst hz
  exact ⟨⟨x, y, z⟩, rfl⟩
theorem ops1_of {n : Nat} {cs : List PV} (h : Go.VL.WT C (n + 4) 23 cs) : ∃ l : List KO, cs = [.sl .no 3 (encOs l)] := by
 unfold Go.VL.WT at h
 simp only [CT, T23] at h
 obtain ⟨sz, rows, hsz, hp, _, hr⟩ := h
 simp only [CT, T26, Option.map_some, Option.some.injEq] at hsz
 subst hsz
 have key : ∀ rows : List (List PV), (∀ r ∈ rows, Go.VL.WT C (n + 3) 26 r) → ∃ l : List KO, rows = encOs l := by
  intro rows
  induction rows with
  | nil => exact fun _ => ⟨[], rfl⟩
  | cons r rows ih =>
   intro hr
   obtain ⟨d, rfl⟩ := ih fun r' hr' => hr r' (List.mem_cons_of_mem _ hr')
   obtain ⟨x, rfl⟩ := op_of (hr r (List.mem_cons_self ..))
   exact ⟨x :: d, rfl⟩
 obtain ⟨d, rfl⟩ := key rows hr
 exact ⟨d, hp⟩
theorem opsA_of {p : PV} (h : WTA C 6 23 p) : ∃ l : List KO, p = .sl .no 3 (encOs l) := by
 unfold WTA at h
 simp only [CT, T23] at h
 obtain ⟨l, hl⟩ := ops1_of (n := 2) h
 injection hl with hl
 exact ⟨l, hl⟩
theorem view_of {n : Nat} {cs : List PV} (h : Go.VL.WT C (n + 2) 34 cs) : ∃ w : Wv, cs = encW w ∧ FitW w := by
 unfold Go.VL.WT at h
 simp only [CT, T34] at h
 obtain ⟨hl, hf⟩ := h
 match cs, hl with
 | [a, b, c, d], _ =>
  obtain ⟨x0, h0, z0⟩ := str1_of (hf (0, 9, 1) (by simp))
  obtain ⟨x1, h1⟩ := one_of (hf (1, 3, 1) (by simp))
  obtain ⟨x2, h2, z2⟩ := str1_of (hf (2, 9, 1) (by simp))
  obtain ⟨x3, h3, z3⟩ := str1_of (hf (3, 9, 1) (by simp))
  simp at h0 h1 h2 h3
  subst h0; subst h1; subst h2; subst h3
  exact ⟨⟨x0, x1, x2, x3⟩, rfl, z0, z2, z3⟩
theorem do_of {n : Nat} {cs : List PV} (h : Go.VL.WT C (n + 5) 42 cs) : ∃ d : DV, cs = encDv d ∧ FitW d.view := by
 unfold Go.VL.WT at h
 simp only [CT, T42] at h
 obtain ⟨hl, hf⟩ := h
 match cs, hl with
 | [a, b, c, d, e, f], _ =>
  obtain ⟨x0, h0⟩ := one_of (hf (0, 3, 1) (by simp))
  obtain ⟨x1, h1⟩ := ops1_of (hf (1, 23, 1) (by simp))
  obtain ⟨x2, h2, hz⟩ := view_of (hf (2, 34, 4) (by simp))
  simp [encW] at h0 h1 h2
  obtain ⟨z0, z1, z2, z3⟩ := h2
  subst h0; subst h1; subst z0; subst z1; subst z2; subst z3
  exact ⟨⟨x0, x1, x2⟩, rfl, hz⟩
theorem dosZ_of {p : PV} (h : WTA C 6 43 p) : ∃ l : List DV, p = .sl .no 6 (encDvs l) ∧ (l.length ≤ 1599289640354 ∧ ∀ d ∈ l, FitW d.view) := by
 unfold WTA at h
 simp only [CT, T43] at h
 unfold Go.VL.WT at h
 simp only [CT, T43] at h
 obtain ⟨sz, rows, hsz, hp, ⟨_, hb⟩, hr⟩ := h
 simp only [CT, T42, Option.map_some, Option.some.injEq] at hsz
 subst hsz
 have hb := hb _ T42
 dsimp only at hb
 have key : ∀ rows : List (List PV), (∀ r ∈ rows, Go.VL.WT C 5 42 r) → ∃ l : List DV, rows = encDvs l ∧ ∀ d ∈ l, FitW d.view := by
  intro rows
  induction rows with
  | nil => exact fun _ => ⟨[], rfl, fun d hd => by cases hd⟩
  | cons r rows ih =>
   intro hr
   obtain ⟨d, rfl, hd⟩ := ih fun r' hr' => hr r' (List.mem_cons_of_mem _ hr')
   obtain ⟨x, rfl, hx⟩ := do_of (n := 0) (hr r (List.mem_cons_self ..))
   refine ⟨x :: d, rfl, fun y hy => ?_⟩
   rcases List.mem_cons.1 hy with rfl | hy
   ·exact hx
   ·exact hd y hy
 obtain ⟨d, rfl, hd⟩ := key rows hr
 injection hp with hp
 refine ⟨d, hp, ?_, hd⟩
 rw [len_encDvs] at hb
 unfold reachBytes at hb
 omega
theorem plain23 : plainT C.T 6 23 = true := by decide +kernel
theorem plain43 : plainT C.T 6 43 = true := by decide +kernel
end Go.Proofs.YtdioedabjaaboaaGreat.V
