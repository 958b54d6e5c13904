/- Views: what the arguments' readings are. -/
import Derived.Test.YtdioedabjaaboaaGreatYJ
import Derived.OpenShut
import Derived.Test.YtdioedabjaaboaaGreatZI
set_option linter.unusedVariables false
set_option linter.unusedSimpArgs false
namespace Go.Proofs.YtdioedabjaaboaaGreat.V
open Go Go.VL

theorem rb_le {n : Nat} (h : n ≤ reachBytes) : n ≤ 140737488355328 := by unfold reachBytes at h; omega
theorem str1_of {n : Nat} {cs : List PV} (h : Go.VL.WT C (n + 1) 9 cs) : ∃ s : ByteArray, cs = [.str s] ∧ s.size ≤ 140737488355328 := by
 unfold Go.VL.WT at h
 simp only [CT, T9] at h
 obtain ⟨s, hs, hz⟩ := h
 exact ⟨s, hs, rb_le hz⟩
theorem plain34 : plainT C.T 6 34 = true := by decide +kernel
end Go.Proofs.YtdioedabjaaboaaGreat.V
namespace Go.Proofs.YtdioedabjaaboaaGreat.V
open Go Go.VL

theorem ty28 : TT 28 = some ⟨.slice 5, 1, 24, [.sl .no 1 []]⟩ := rfl
theorem byte1_of {n : Nat} {cs : List PV} (h : Go.VL.WT C (n + 1) 5 cs) : ∃ c : UInt8, cs = [.int .u8 (c.toNat : Int)] := by
 unfold Go.VL.WT at h
 simp only [CT, T5] at h
 obtain ⟨x, rfl, hw⟩ := h
 have hb : 0 ≤ x ∧ x < 256 := by
  simp [Lit.wf, IntKind.min, IntKind.max, IntKind.bits, IntKind.signed] at hw
  omega
 refine ⟨UInt8.ofNat x.toNat, ?_⟩
 have : ((UInt8.ofNat x.toNat).toNat : Int) = x := by
  rw [UInt8.toNat_ofNat']
  omega
 rw [this]
theorem bytesA_of {p : PV} (h : WTA C 6 28 p) : ∃ l : List UInt8, p = .sl .no 1 (encB l) ∧ True := by
 unfold WTA at h
 simp only [CT, ty28] at h
 unfold Go.VL.WT at h
 simp only [CT, ty28] at h
 obtain ⟨sz, rows, hsz, hp, _, hr⟩ := h
 simp only [CT, T5, Option.map_some, Option.some.injEq] at hsz
 subst hsz
 have key : ∀ rows : List (List PV), (∀ r ∈ rows, Go.VL.WT C 5 5 r) → ∃ l : List UInt8, rows = encB l := by
  intro rows
  induction rows with
  | nil => exact fun _ => ⟨[], rfl⟩
  | cons r rows ih =>
   intro hr
   obtain ⟨d, rfl⟩ := ih fun r' hr' => hr r' (List.mem_cons_of_mem _ hr')
   obtain ⟨x, rfl⟩ := byte1_of (n := 4) (hr r (List.mem_cons_self ..))
   exact ⟨x :: d, rfl⟩
 obtain ⟨d, rfl⟩ := key rows hr
 injection hp with hp
 exact ⟨d, hp, trivial⟩
theorem kind_of {n : Nat} {cs : List PV} (h : Go.VL.WT C (n + 1) 3 cs) : ∃ x : Int, cs = [.int .i64 x] ∧ x ≤ 9223372036854775807 := by
 unfold Go.VL.WT at h
 simp only [CT, T3] at h
 obtain ⟨x, rfl, hw⟩ := h
 refine ⟨x, rfl, ?_⟩
 have : -9223372036854775808 ≤ x ∧ x ≤ 9223372036854775807 := by simpa [Lit.wf, IntKind.min, IntKind.bits, IntKind.signed] using hw
 exact this.2
theorem viewK_of {p : PV} (h : WTA C 6 34 p) : ∃ w : Wv, p = .agg (encW w) ∧ FitW w ∧ w.kind.toNat < 9223372036854775808 := by
 unfold WTA at h
 simp only [CT, T34] at h
 obtain ⟨cs, hp, h⟩ := h
 unfold Go.VL.WT at h
 simp only [CT, T34] at h
 obtain ⟨hl, hf⟩ := h
 match cs, hl with
 | [a, b, c, d], _ =>
  obtain ⟨x0, h0, z0⟩ := str1_of (n := 4) (hf (0, 9, 1) (by simp))
  obtain ⟨x1, h1, z1⟩ := kind_of (n := 4) (hf (1, 3, 1) (by simp))
  obtain ⟨x2, h2, z2⟩ := str1_of (n := 4) (hf (2, 9, 1) (by simp))
  obtain ⟨x3, h3, z3⟩ := str1_of (n := 4) (hf (3, 9, 1) (by simp))
  simp at h0 h1 h2 h3
  subst h0; subst h1; subst h2; subst h3
  exact ⟨⟨x0, x1, x2, x3⟩, hp, ⟨z0, z2, z3⟩, by show x1.toNat < 9223372036854775808; omega⟩
theorem plain28 : plainT C.T 6 28 = true := by decide +kernel
end Go.Proofs.YtdioedabjaaboaaGreat.V
