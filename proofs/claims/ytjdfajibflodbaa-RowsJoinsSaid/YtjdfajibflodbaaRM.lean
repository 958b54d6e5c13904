/- Rows: what the arguments' readings are, as plain lists. -/
import Derived.Test.YtjdfajibflodbaaRK
import Derived.OpenShut
set_option linter.unusedVariables false
set_option linter.unusedSimpArgs false
namespace Go.Proofs.Ytjdfajibflodbaa.V
open Go Go.VL

theorem wf64 {x : Int} (h : (Lit.int .i64 x).wf = true) : InR x := by
  have := Go.bounds_i64 h
  unfold InR
  omega

theorem int_of {p : PV} (h : WTA C 6 3 p) : ∃ x, p = .int .i64 x ∧ InR x := by
  unfold WTA at h
  simp only [CT, T3] at h
  unfold WT at h
  simp only [CT, T3] at h
  obtain ⟨x, hx, hw⟩ := h
  injection hx with hx
  exact ⟨x, hx, wf64 hw⟩

theorem int8_of {n : Nat} {cs : List PV} (h : WT C (n + 1) 5 cs) : ∃ x, cs = [.int .u8 x] ∧ 0 ≤ x ∧ x ≤ 255 := by
  unfold WT at h
  simp only [CT, T5] at h
  obtain ⟨x, rfl, hw⟩ := h
  have := Go.bounds_u8 hw
  exact ⟨x, rfl, by omega, by omega⟩

def FineD (d : List Int) : Prop := d.length ≤ 140737488351232 ∧ ∀ b ∈ d, 0 ≤ b ∧ b ≤ 255
def FineE (e : Ent) : Prop := InR e.i ∧ InR e.t ∧ FineD e.d
def FineL (l : List Ent) : Prop := ∀ e ∈ l, FineE e

theorem bytes_of {n : Nat} {cs : List PV} (h : WT C (n + 2) 42 cs) : ∃ d : List Int, cs = [.sl .no 1 (encD d)] ∧ FineD d := by
  unfold WT at h
  simp only [CT, T42] at h
  obtain ⟨sz, rows, hsz, rfl, hb, hr⟩ := h
  simp only [CT, T5, Option.map_some, Option.some.injEq] at hsz
  subst hsz
  have hb := hb.2 _ T5
  have key : ∀ rows : List (List PV), (∀ r ∈ rows, WT C (n + 1) 5 r) → ∃ d : List Int, rows = encD d ∧ ∀ b ∈ d, 0 ≤ b ∧ b ≤ 255 := by
    intro rows
    induction rows with
    | nil => exact fun _ => ⟨[], rfl, by simp⟩
    | cons r rows ih =>
      intro hr
      obtain ⟨d, rfl, hd⟩ := ih fun r' hr' => hr r' (List.mem_cons_of_mem _ hr')
      obtain ⟨x, rfl, h1, h2⟩ := int8_of (hr r (List.mem_cons_self ..))
      exact ⟨x :: d, rfl, fun b hb => by rcases List.mem_cons.1 hb with rfl | hb; exact ⟨h1, h2⟩; exact hd b hb⟩
  obtain ⟨d, rfl, hd⟩ := key rows hr
  rw [len_encD] at hb
  exact ⟨d, rfl, by simp only [reachBytes] at hb; omega, hd⟩

theorem one_of {n : Nat} {cs : List PV} (h : WT C (n + 1) 3 cs) : ∃ x, cs = [.int .i64 x] ∧ InR x := by
  unfold WT at h
  simp only [CT, T3] at h
  obtain ⟨x, rfl, hw⟩ := h
  exact ⟨x, rfl, wf64 hw⟩

theorem ent_of {n : Nat} {cs : List PV} (h : WT C (n + 3) 44 cs) : ∃ e : Ent, cs = encE e ∧ FineE e := by
  unfold WT at h
  simp only [CT, T44] at h
  obtain ⟨hl, hf⟩ := h
  match cs, hl with
  | [a, b, c], _ =>
    obtain ⟨x, hx, hx2⟩ := one_of (hf (0, 3, 1) (by simp))
    obtain ⟨y, hy, hy2⟩ := one_of (hf (1, 3, 1) (by simp))
    obtain ⟨d, hd, hd2⟩ := bytes_of (hf (2, 42, 1) (by simp))
    simp at hx hy hd
    subst hx; subst hy; subst hd
    exact ⟨⟨x, y, d⟩, rfl, hx2, hy2, hd2⟩

theorem ents_of {n : Nat} {cs : List PV} (h : WT C (n + 4) 22 cs) : ∃ l : List Ent, cs = [.sl .no 3 (encL l)] ∧ FineL l := by
  unfold WT at h
  simp only [CT, T22] at h
  obtain ⟨sz, rows, hsz, rfl, _, hr⟩ := h
  simp only [CT, T44, Option.map_some, Option.some.injEq] at hsz
  subst hsz
  have key : ∀ rows : List (List PV), (∀ r ∈ rows, WT C (n + 3) 44 r) → ∃ l : List Ent, rows = encL l ∧ FineL l := by
    intro rows
    induction rows with
    | nil => exact fun _ => ⟨[], rfl, by simp [FineL]⟩
    | cons r rows ih =>
      intro hr
      obtain ⟨d, rfl, hd⟩ := ih fun r' hr' => hr r' (List.mem_cons_of_mem _ hr')
      obtain ⟨x, rfl, hx⟩ := ent_of (hr r (List.mem_cons_self ..))
      exact ⟨x :: d, rfl, fun e he => by rcases List.mem_cons.1 he with rfl | he; exact hx; exact hd e he⟩
  obtain ⟨d, rfl, hd⟩ := key rows hr
  exact ⟨d, rfl, hd⟩

theorem entsA_of {p : PV} (h : WTA C 6 22 p) : ∃ l : List Ent, p = .sl .no 3 (encL l) ∧ FineL l := by
  unfold WTA at h
  simp only [CT, T22] at h
  obtain ⟨l, hl, hf⟩ := ents_of (n := 2) h
  injection hl with hl
  exact ⟨l, hl, hf⟩

theorem log_of {p : PV} (h : WTA C 6 24 p) : ∃ l : Lg, p = encG l ∧ InR l.i ∧ InR l.t ∧ FineL l.rows := by
  unfold WTA at h
  simp only [CT, T24] at h
  obtain ⟨cs, rfl, h⟩ := h
  unfold WT at h
  simp only [CT, T24] at h
  obtain ⟨hl, hf⟩ := h
  match cs, hl with
  | [a, b, c], _ =>
    obtain ⟨x, hx, hx2⟩ := one_of (hf (0, 3, 1) (by simp))
    obtain ⟨y, hy, hy2⟩ := one_of (hf (1, 3, 1) (by simp))
    obtain ⟨d, hd, hd2⟩ := ents_of (n := 1) (hf (2, 22, 1) (by simp))
    simp at hx hy hd
    subst hx; subst hy; subst hd
    exact ⟨⟨x, y, d⟩, rfl, hx2, hy2, hd2⟩

theorem plain3 : plainT C.T 6 3 = true := by decide +kernel
theorem plain22 : plainT C.T 6 22 = true := by decide +kernel
theorem plain24 : plainT C.T 6 24 = true := by decide +kernel
end Go.Proofs.Ytjdfajibflodbaa.V
