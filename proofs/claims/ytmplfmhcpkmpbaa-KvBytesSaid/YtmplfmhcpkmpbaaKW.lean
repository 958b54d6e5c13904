/- Maps: what the arguments' readings are, as plain lists. -/
import Derived.Test.YtmplfmhcpkmpbaaKI
import Derived.OpenShut
set_option linter.unusedVariables false
set_option linter.unusedSimpArgs false
namespace Go.Proofs.Ytmplfmhcpkmpbaa.V
open Go Go.VL

/-- A call of a map. -/
structure KD where
  op : Int
  pos : Int
  conds : List KO
  ops : List KO
  frm : ByteArray
  to : ByteArray
  ev : KV
def encD (d : KD) : List PV := [.int .i64 d.op, .int .i64 d.pos, .sl .no 3 (encOs d.conds), .sl .no 3 (encOs d.ops), .str d.frm, .str d.to, .int .i64 d.ev.pos, .str d.ev.k, .bool d.ev.had, .str d.ev.old, .bool d.ev.has, .str d.ev.now]
def encDs (l : List KD) : List (List PV) := l.map encD
@[go_sem] theorem len_encDs (l : List KD) : (encDs l).length = l.length := by simp [encDs]
theorem getD_encDs {l : List KD} {k : Nat} {d : KD} (h : l[k]? = some d) : (encDs l).getD k [] = [.int .i64 d.op, .int .i64 d.pos, .sl .no 3 (encOs d.conds), .sl .no 3 (encOs d.ops), .str d.frm, .str d.to, .int .i64 d.ev.pos, .str d.ev.k, .bool d.ev.had, .str d.ev.old, .bool d.ev.has, .str d.ev.now] := by
  simp [encDs, encD, List.getD_eq_getElem?_getD, h]

theorem wf64 {x : Int} (h : (Lit.int .i64 x).wf = true) : -9223372036854775808 ≤ x ∧ x ≤ 9223372036854775807 := by
  have := Go.bounds_i64 h
  omega
theorem int_of {p : PV} (h : WTA C 6 3 p) : ∃ x, p = .int .i64 x ∧ (-9223372036854775808 ≤ x ∧ x ≤ 9223372036854775807) := by
  unfold WTA at h
  simp only [CT, T3] at h
  unfold WT at h
  simp only [CT, T3] at h
  obtain ⟨x, hx, hw⟩ := h
  injection hx with hx
  exact ⟨x, hx, wf64 hw⟩
theorem one_of {n : Nat} {cs : List PV} (h : WT C (n + 1) 3 cs) : ∃ x, cs = [.int .i64 x] := by
  unfold WT at h
  simp only [CT, T3] at h
  obtain ⟨x, rfl, hw⟩ := h
  exact ⟨x, rfl⟩
theorem bool1_of {n : Nat} {cs : List PV} (h : WT C (n + 1) 4 cs) : ∃ x, cs = [.bool x] := by
  unfold WT at h
  simp only [CT, T4] at h
  exact h
theorem str1_of {n : Nat} {cs : List PV} (h : WT C (n + 1) 9 cs) : ∃ s : ByteArray, cs = [.str s] := by
  unfold WT at h
  simp only [CT, T9] at h
  obtain ⟨s, hs, _⟩ := h
  exact ⟨s, hs⟩
theorem str_of {p : PV} (h : WTA C 6 9 p) : ∃ s : ByteArray, p = .str s ∧ s.size ≤ reachBytes := by
  unfold WTA at h
  simp only [CT, T9] at h
  unfold WT at h
  simp only [CT, T9] at h
  obtain ⟨s, hs, hz⟩ := h
  injection hs with hs
  exact ⟨s, hs, hz⟩
theorem op_of {n : Nat} {cs : List PV} (h : WT C (n + 3) 41 cs) : ∃ d : KO, cs = encO d := by
  unfold WT at h
  simp only [CT, T41] at h
  obtain ⟨hl, hf⟩ := h
  match cs, hl with
  | [a, b, c], _ =>
    obtain ⟨x, hx⟩ := str1_of (hf (0, 9, 1) (by simp))
    obtain ⟨y, hy⟩ := bool1_of (hf (1, 4, 1) (by simp))
    obtain ⟨z, hz⟩ := str1_of (hf (2, 9, 1) (by simp))
    simp at hx hy hz
    subst hx; subst hy; subst hz
    exact ⟨⟨x, y, z⟩, rfl⟩
theorem ops1_of {n : Nat} {cs : List PV} (h : WT C (n + 4) 22 cs) : ∃ l : List KO, cs = [.sl .no 3 (encOs l)] := by
  unfold WT at h
  simp only [CT, T22] at h
  obtain ⟨sz, rows, hsz, hp, _, hr⟩ := h
  simp only [CT, T41, Option.map_some, Option.some.injEq] at hsz
  subst hsz
  have key : ∀ rows : List (List PV), (∀ r ∈ rows, WT C (n + 3) 41 r) → ∃ l : List KO, rows = encOs l := by
    intro rows
    induction rows with
    | nil => exact fun _ => ⟨[], rfl⟩
    | cons r rows ih =>
      intro hr
      obtain ⟨d, rfl⟩ := ih fun r' hr' => hr r' (List.mem_cons_of_mem _ hr')
      obtain ⟨x, rfl⟩ := op_of (hr r (List.mem_cons_self ..))
      exact ⟨x :: d, rfl⟩
  obtain ⟨d, rfl⟩ := key rows hr
  exact ⟨d, hp⟩
theorem opsA_of {p : PV} (h : WTA C 6 22 p) : ∃ l : List KO, p = .sl .no 3 (encOs l) := by
  unfold WTA at h
  simp only [CT, T22] at h
  obtain ⟨l, hl⟩ := ops1_of (n := 2) h
  injection hl with hl
  exact ⟨l, hl⟩
theorem ev_of {n : Nat} {cs : List PV} (h : WT C (n + 3) 36 cs) : ∃ d : KV, cs = encV d := by
  unfold WT at h
  simp only [CT, T36] at h
  obtain ⟨hl, hf⟩ := h
  match cs, hl with
  | [a, b, c, d, e, f], _ =>
    obtain ⟨x, hx⟩ := one_of (hf (0, 3, 1) (by simp))
    obtain ⟨y, hy⟩ := str1_of (hf (1, 9, 1) (by simp))
    obtain ⟨z, hz⟩ := bool1_of (hf (2, 4, 1) (by simp))
    obtain ⟨u, hu⟩ := str1_of (hf (3, 9, 1) (by simp))
    obtain ⟨v, hv⟩ := bool1_of (hf (4, 4, 1) (by simp))
    obtain ⟨w, hw⟩ := str1_of (hf (5, 9, 1) (by simp))
    simp at hx hy hz hu hv hw
    subst hx; subst hy; subst hz; subst hu; subst hv; subst hw
    exact ⟨⟨x, y, z, u, v, w⟩, rfl⟩
theorem do_of {n : Nat} {cs : List PV} (h : WT C (n + 5) 44 cs) : ∃ d : KD, cs = encD d := by
  unfold WT at h
  simp only [CT, T44] at h
  obtain ⟨hl, hf⟩ := h
  match cs, hl with
  | [a, b, c, d, e, f, g0, g1, g2, g3, g4, g5], _ =>
    obtain ⟨x0, h0⟩ := one_of (hf (0, 3, 1) (by simp))
    obtain ⟨x1, h1⟩ := one_of (hf (1, 3, 1) (by simp))
    obtain ⟨x2, h2⟩ := ops1_of (hf (2, 22, 1) (by simp))
    obtain ⟨x3, h3⟩ := ops1_of (hf (3, 22, 1) (by simp))
    obtain ⟨x4, h4⟩ := str1_of (hf (4, 9, 1) (by simp))
    obtain ⟨x5, h5⟩ := str1_of (hf (5, 9, 1) (by simp))
    obtain ⟨x6, h6⟩ := ev_of (hf (6, 36, 6) (by simp))
    simp [encV] at h0 h1 h2 h3 h4 h5 h6
    obtain ⟨z0, z1, z2, z3, z4, z5⟩ := h6
    subst h0; subst h1; subst h2; subst h3; subst h4; subst h5; subst z0; subst z1; subst z2; subst z3; subst z4; subst z5
    exact ⟨⟨x0, x1, x2, x3, x4, x5, x6⟩, rfl⟩
theorem doA_of {p : PV} (h : WTA C 6 44 p) : ∃ d : KD, p = .agg (encD d) := by
  unfold WTA at h
  simp only [CT, T44] at h
  obtain ⟨cs, hp, hw⟩ := h
  obtain ⟨d, rfl⟩ := do_of (n := 1) hw
  exact ⟨d, hp⟩
theorem dosA_of {p : PV} (h : WTA C 6 28 p) : ∃ l : List KD, p = .sl .no 12 (encDs l) := by
  unfold WTA at h
  simp only [CT, T28] at h
  unfold WT at h
  simp only [CT, T28] at h
  obtain ⟨sz, rows, hsz, hp, _, hr⟩ := h
  simp only [CT, T44, Option.map_some, Option.some.injEq] at hsz
  subst hsz
  have key : ∀ rows : List (List PV), (∀ r ∈ rows, WT C 5 44 r) → ∃ l : List KD, rows = encDs l := by
    intro rows
    induction rows with
    | nil => exact fun _ => ⟨[], rfl⟩
    | cons r rows ih =>
      intro hr
      obtain ⟨d, rfl⟩ := ih fun r' hr' => hr r' (List.mem_cons_of_mem _ hr')
      obtain ⟨x, rfl⟩ := do_of (n := 0) (hr r (List.mem_cons_self ..))
      exact ⟨x :: d, rfl⟩
  obtain ⟨d, rfl⟩ := key rows hr
  injection hp with hp
  exact ⟨d, hp⟩
theorem plain3 : plainT C.T 6 3 = true := by decide +kernel
theorem plain9 : plainT C.T 6 9 = true := by decide +kernel
theorem plain22 : plainT C.T 6 22 = true := by decide +kernel
theorem plain28 : plainT C.T 6 28 = true := by decide +kernel
theorem plain44 : plainT C.T 6 44 = true := by decide +kernel
end Go.Proofs.Ytmplfmhcpkmpbaa.V
