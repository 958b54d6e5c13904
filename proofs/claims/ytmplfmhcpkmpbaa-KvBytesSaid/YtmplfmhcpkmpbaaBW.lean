/- Bytes: readings of bytes. -/
import Derived.Test.YtmplfmhcpkmpbaaBJ
import Derived.Test.YtmplfmhcpkmpbaaKW
set_option linter.unusedVariables false
set_option linter.unusedSimpArgs false
namespace Go.Proofs.Ytmplfmhcpkmpbaa.V
open Go Go.VL
theorem byte1_of {n : Nat} {cs : List PV} (h : WT C (n + 1) 5 cs) : ∃ c : UInt8, cs = [.int .u8 (c.toNat : Int)] := by
  unfold WT at h
  simp only [CT, T5] at h
  obtain ⟨x, rfl, hw⟩ := h
  have hb : 0 ≤ x ∧ x < 256 := by
    simp [Lit.wf, IntKind.min, IntKind.max, IntKind.bits, IntKind.signed] at hw
    omega
  refine ⟨UInt8.ofNat x.toNat, ?_⟩
  have : ((UInt8.ofNat x.toNat).toNat : Int) = x := by
    rw [UInt8.toNat_ofNat']
    omega
  rw [this]
theorem bytesA_of {p : PV} (h : WTA C 6 67 p) : ∃ l : List UInt8, p = .sl .no 1 (encB l) := by
  unfold WTA at h
  simp only [CT, T67] at h
  unfold WT at h
  simp only [CT, T67] at h
  obtain ⟨sz, rows, hsz, hp, _, hr⟩ := h
  simp only [CT, T5, Option.map_some, Option.some.injEq] at hsz
  subst hsz
  have key : ∀ rows : List (List PV), (∀ r ∈ rows, WT C 5 5 r) → ∃ l : List UInt8, rows = encB l := by
    intro rows
    induction rows with
    | nil => exact fun _ => ⟨[], rfl⟩
    | cons r rows ih =>
      intro hr
      obtain ⟨d, rfl⟩ := ih fun r' hr' => hr r' (List.mem_cons_of_mem _ hr')
      obtain ⟨x, rfl⟩ := byte1_of (n := 4) (hr r (List.mem_cons_self ..))
      exact ⟨x :: d, rfl⟩
  obtain ⟨d, rfl⟩ := key rows hr
  injection hp with hp
  exact ⟨d, hp⟩
theorem plain67 : plainT C.T 6 67 = true := by decide +kernel
end Go.Proofs.Ytmplfmhcpkmpbaa.V
