/- VL, part 5: each operation does what it answers. -/
import Derived.Test.YtmedhhjbknnfkaaVL4
namespace Go.VL
open Go

section
variable {C : Ctx} {o : Oper} {g : Gh} {w : World} {a : Act} {e : Env} {n : Nat} {S : Store} {v : PV}

theorem struct_fields {t : TypeId} {ti : TI} {fs : List (Nat × TypeId × Nat)} (ht : C.T t = some ti) (hk : ti.k = .struct fs) : ∃ arr, C.P.underlying t = some (.struct arr) ∧
    arr.toList.mapM (fun f => (C.P.info? f.type).map fun i => (f.offset, i.size)) = some (fs.map fun x => (x.1, x.2.2)) ∧ ∀ (j : Nat) f, arr[j]? = some f → ∃ i, C.P.info? f.type = some i ∧ fs[j]? = some (f.offset, f.type, i.size) := by
  obtain ⟨d, hd, hok⟩ := (C.hT t ti ht).und
  rw [hk] at hok
  obtain ⟨arr, rfl, h1, h2⟩ := hok
  exact ⟨arr, hd, h1, h2⟩
theorem mapM_len {α β : Type} (f : α → Option β) : ∀ (l : List α) (r : List β), l.mapM f = some r → r.length = l.length
  | [], r, h => by simp at h; subst h; rfl
  | x :: l, r, h => by
    simp only [List.mapM_cons, Option.bind_eq_bind, Option.bind_eq_some_iff, Option.pure_def, Option.some.injEq] at h
    obtain ⟨y, _, z, hz, rfl⟩ := h
    simp [mapM_len f l z hz]
/-- The field of a number. -/
theorem field_at {t : TypeId} {ti : TI} {fs : List (Nat × TypeId × Nat)} (ht : C.T t = some ti) (hk : ti.k = .struct fs) {j off ft sz : Nat} (hj : fs[j]? = some (off, ft, sz)) :
    ∃ arr f, C.P.underlying t = some (.struct arr) ∧ arr[j]? = some f ∧ f.offset = off ∧ f.type = ft ∧ ∃ i, C.P.info? ft = some i ∧ i.size = sz := by
  obtain ⟨arr, h1, h2, h3⟩ := struct_fields ht hk
  have hl := mapM_len _ _ _ h2
  simp at hl
  have hlt : j < arr.size := by rw [← hl]; exact (List.getElem?_eq_some_iff.1 hj).1
  have he : arr[j]? = some arr[j] := Array.getElem?_eq_getElem hlt
  obtain ⟨i, hi, hf⟩ := h3 j _ he
  rw [hj] at hf
  injection hf with hf
  injection hf with f1 f2
  injection f2 with f2 f3
  exact ⟨arr, arr[j], h1, he, f1.symm, f2.symm, i, by rw [f2]; exact hi, f3.symm⟩
theorem und_slice {t el : TypeId} {ti : TI} (ht : C.T t = some ti) (hk : ti.k = .slice el) : C.P.underlying t = some (.slice el) := by
  obtain ⟨d, hd, hok⟩ := (C.hT t ti ht).und
  rw [hk] at hok
  cases hok; exact hd
theorem und_array {t el : TypeId} {ti : TI} {m : Nat} (ht : C.T t = some ti) (hk : ti.k = .array m el) : C.P.underlying t = some (.array m el) := by
  obtain ⟨d, hd, hok⟩ := (C.hT t ti ht).und
  rw [hk] at hok
  cases hok; exact hd
theorem und_str {t : TypeId} {ti : TI} (ht : C.T t = some ti) (hk : ti.k = .str) : C.P.underlying t = some .string := by
  obtain ⟨d, hd, hok⟩ := (C.hT t ti ht).und
  rw [hk] at hok
  cases hok; exact hd
theorem und_bool {t : TypeId} {ti : TI} (ht : C.T t = some ti) (hk : ti.k = .bool) : C.P.underlying t = some .bool := by
  obtain ⟨d, hd, hok⟩ := (C.hT t ti ht).und
  rw [hk] at hok
  cases hok; exact hd
theorem und_int {t : TypeId} {ti : TI} {k : IntKind} (ht : C.T t = some ti) (hk : ti.k = .int k) : C.P.underlying t = some (.int k) := by
  obtain ⟨d, hd, hok⟩ := (C.hT t ti ht).und
  rw [hk] at hok
  cases hok; exact hd
theorem und_ptr {t : TypeId} {ti : TI} (ht : C.T t = some ti) (hk : ti.k = .ptr) : ∃ el, C.P.underlying t = some (.pointer el) := by
  obtain ⟨d, hd, hok⟩ := (C.hT t ti ht).und
  rw [hk] at hok
  obtain ⟨el, rfl⟩ := hok
  exact ⟨el, hd⟩
theorem und_any {t : TypeId} {ti : TI} (ht : C.T t = some ti) : ∃ d, C.P.underlying t = some d := by
  obtain ⟨d, hd, _⟩ := (C.hT t ti ht).und
  exact ⟨d, hd⟩

theorem ppart_run {ti : TI} {t : TypeId} (ht : C.T t = some ti) {cells : List PV} {vs : Array Value} {off : Nat} (hc : CR g w cells vs) (hl : ppart ti cells off = some v) :
    ∃ x, (part t vs off).run C.P w = .ok x w ∧ Rel g w v x ∧ v.bare = v := by
  unfold ppart pload at hl
  unfold part
  split at hl
  · rename_i hag
    split at hl
    · rename_i hle
      cases hl
      refine ⟨.agg (vs.extract off (off + ti.size)), ?_, ?_, rfl⟩
      · simp only [Sem.run_bind, C.isAgg ht, Result.andThen_ok, hag, if_true, C.sizeOf ht]
        rfl
      · have hs : (vs.extract off (off + ti.size)).size = ti.size := by have := hc.len; simp; omega
        refine .agg (by rw [hs]; simp; omega) (fun k rv hk => ?_) (fun k v rv hv hk => ?_)
        · rw [Array.getElem?_extract] at hk
          split at hk
          · exact hc.one _ _ hk
          · cases hk
        · rw [Array.getElem?_extract] at hk
          split at hk
          · rename_i hlt
            rw [List.getElem?_take, if_pos (by have := hc.len; omega), List.getElem?_drop] at hv
            exact hc.rel _ _ _ hv hk
          · cases hk
    · cases hl
  · rename_i hag
    have hag' : ti.k.agg = false := by simpa using hag
    cases hcc : cells[off]? with
    | none => rw [hcc] at hl; cases hl
    | some u =>
      rw [hcc] at hl
      simp only [Option.map_some, Option.some.injEq] at hl
      subst hl
      have hlt : off < vs.size := by rw [← hc.len]; exact (List.getElem?_eq_some_iff.1 hcc).1
      have he : vs[off]? = some vs[off] := Array.getElem?_eq_getElem hlt
      refine ⟨vs[off], ?_, (hc.rel _ _ _ hcc he).bare, PV.bare_bare u⟩
      simp only [Sem.run_bind, C.isAgg ht, Result.andThen_ok, hag', Bool.false_eq_true, if_false, he]
      rfl

theorem agg_cr {cs : List PV} {rv : Value} (h : Rel g w (.agg cs) rv) : ∃ vs, rv = .agg vs ∧ CR g w cs vs := by
  cases h with
  | agg hl h1 hr => exact ⟨_, rfl, hl, hr, h1⟩

theorem bnd_run {x : Option PV} {y : Option Value} {d l : Int} (h : bnd x d = some l) (hr : ∀ p q, x = some p → y = some q → Rel g w p q) (hs : x.isSome = y.isSome) :
    (x = none ∧ y = none ∧ l = d) ∨ ∃ k, y = some (.int k l) := by
  unfold bnd at h
  split at h
  · cases y with
    | none => cases h; exact .inl ⟨rfl, rfl, rfl⟩
    | some q => simp at hs
  · cases y with
    | none => simp at hs
    | some q =>
      injection h with h
      subst h
      have := rel_int (hr _ _ rfl rfl)
      subst this
      exact .inr ⟨_, rfl⟩
  · cases h

theorem sliceBound_ok {P : Program} {k : IntKind} {l : Int} {y : Nat} {code : BoundsCode} (h : 0 ≤ l ∧ l ≤ y) : (Instr.sliceBound (.int k l) y code).run P w = .ok l.toNat w := by
  simp [Instr.sliceBound, asIntOf, h]

theorem sl_parts {f : Fl} {sz : Nat} {rows : List (List PV)} {rv : Value} (h : Rel g w (.sl f sz rows) rv) : (rv = .slice none 0 0 ∧ rows = []) ∨ ∃ b o sp cap, rv = .slice (some ⟨b, o, sp⟩) rows.length cap ∧ rows.length ≤ cap ∧ (rows = [] ∨ sp = none) := by
  cases h with
  | slnil => exact .inl ⟨rfl, rfl⟩
  | sl fv hc hl h1 h2 hs => exact .inr ⟨_, _, _, _, rfl, hc, hs⟩
end
end Go.VL
