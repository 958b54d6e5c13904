/- The walk of Grow from a nil slice. -/
import Derived.Test.YtmplfmhcpkmpbaaVL24
import Derived.Test.YtmplfmhcpkmpbaaVLT
import Derived.Test.YtmplfmhcpkmpbaaKL
set_option linter.unusedVariables false
set_option linter.unusedSimpArgs false
namespace Go.Proofs.Ytmplfmhcpkmpbaa.V
open Go Go.VL Go.RowKit

set_option maxRecDepth 100000 in
theorem grow_spec (n : Nat) (hn : n * 40 ≤ 140737488355328) (S : Store) : PRet Try.prog 56 [.nils, .int .i64 n] S (.sl .tail 3 []) := by
  intro K hK
  refine ⟨⟨Try.f56, Try.func56, rfl, rfl⟩, fun g w rargs h => ?_⟩
  obtain ⟨e0, e1, rfl⟩ : ∃ v0 v1, rargs = #[v0, v1] := by
    have := h.size
    match rargs, this with
    | ⟨[v0, v1]⟩, _ => exact ⟨v0, v1, rfl⟩
  have h0 := (h.slots 0 (by simp)).rel
  have h1 := (h.slots 1 (by simp)).rel
  simp only [argEnv, List.getD_cons_zero, List.getD_cons_succ, Array.getD] at h0 h1
  cases h0
  cases h1
  rcases Nat.eq_zero_or_pos n with rfl | hp
  · go_enter Try.func56, Try.ntmps56
    go_wp2
    go_ret
    exact ⟨_, _, S, g, rfl, hK, Fr.refl _ _, ⟨.slnil _ _, by simp [Tail]⟩, h.objs, h.new⟩
  · have h1 : decide ((n : Int) < 0) = false := by simp
    have h2 : decide ((0 : Int) < (n : Int)) = true := by rw [decide_eq_true_eq]; omega
    have h2' : decide (0 < n) = true := decide_eq_true hp
    have h3 : (0 : Int) ≤ (n : Int) := by omega
    have h4 : (n : Int) ≤ 3518437208883 := by omega
    obtain ⟨i, z, hi, hsz, hby, hz, hzs, _⟩ := (C.hT 41 _ T41).info
    have hsz' : 0 < i.size := by rw [show i.size = 3 from hsz]; decide
    have hby' : i.bytes = 40 := hby
    have hby0 : 0 < i.bytes := by rw [hby']; decide
    have hbn : n * i.bytes ≤ 140737488355328 := by rw [hby']; exact hn
    obtain ⟨zc, rfl⟩ : ∃ zc, z = .agg zc := by
      cases z <;> first | exact ⟨_, rfl⟩ | (exfalso; simp [Value.cells] at hzs)
    obtain ⟨g', Z, hZ, q, ht⟩ := zeros_top h.new (e := 41) (z := .agg zc) (sz := 3) (m := n) hzs
    go_enter Try.func56, Try.ntmps56
    go_wp2_with (at_builtin; go_loud (refine wpList_zeros rfl (.tmp 20) (.tmp 21) 22 3 41 rfl i (.agg zc) Try.underlying22 Try.underlying3 hi hz hsz' hby0 .i64 n hp hbn rfl rfl hZ ?_))
    go_ret
    subst hZ
    exact ⟨_, rfl, _, S, hK, g', q.toFr, ht, fun id cells hi => (h.objs id cells hi).quiet q, q.new⟩
end Go.Proofs.Ytmplfmhcpkmpbaa.V
