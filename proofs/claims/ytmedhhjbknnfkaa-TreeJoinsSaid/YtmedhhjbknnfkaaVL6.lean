/- VL, part 6: pop is sound. -/
import Derived.Test.YtmedhhjbknnfkaaVL5
set_option linter.unusedVariables false
set_option linter.unusedSimpArgs false
namespace Go.VL
open Go

section
variable {C : Ctx} {o : Oper} {g : Gh} {w : World} {a : Act} {e : Env} {n : Nat} {S : Store} {v : PV}

theorem map_lit_rel {parts : Array (Nat × Operand)} (h : St n g w e S a.tmps) (k : Nat) (p : Nat × PV) (q : Nat × Value) (hp : (parts.toList.map fun p => (p.1, ev p.2 e))[k]? = some p)
    (hq : ((parts.map fun (i, x) => (i, a.eval x)).toList)[k]? = some q) : p.1 = q.1 ∧ Rel g w p.2 q.2 := by
  simp only [List.getElem?_map, Option.map_eq_some_iff, Array.toList_map] at hp hq
  obtain ⟨⟨i, x⟩, h1, rfl⟩ := hp
  obtain ⟨⟨j, y⟩, h2, rfl⟩ := hq
  rw [h1] at h2
  injection h2 with h2
  injection h2 with h2 h3
  subst h2; subst h3
  exact ⟨rfl, h.ev x⟩

theorem zero_cr {t : TypeId} {ti : TI} (hT : C.T t = some ti) : ∃ i z, C.P.info? t = some i ∧ i.zero = some z ∧ CR g w ti.zero z.cells := by
  obtain ⟨i, zv, hi, _, _, hz, hzs, hz1, hzl, hzr⟩ := (C.hT _ _ hT).info
  exact ⟨i, zv, hi, hz, by rw [hzl, hzs], fun k v rv h1 h2 => (hzr g w k v rv h1 h2).1, fun k rv h2 => hz1 _ (by rw [← Array.getElem?_toList] at h2; exact List.mem_of_getElem? h2)⟩

theorem zero_opn {t : TypeId} {ti : TI} (hT : C.T t = some ti) : ∃ i z, C.P.info? t = some i ∧ i.zero = some z ∧ (∀ g w, CR g w (ti.zero.map PV.opn) z.cells) ∧ ∀ (g : Gh) (w : World) (id k : Nat) v u, (ti.zero.map PV.opn)[k]? = some v → z.cells[k]? = some u → RoomOk g w id k v u := by
  obtain ⟨i, zv, hi, _, _, hz, hzs, hz1, hzl, hzr⟩ := (C.hT _ _ hT).info
  refine ⟨i, zv, hi, hz, fun g w => ⟨by simp [hzl, hzs], fun k v rv h1 h2 => ?_, fun k rv h2 => hz1 _ (by rw [← Array.getElem?_toList] at h2; exact List.mem_of_getElem? h2)⟩, fun g w id k v u h1 h2 => ?_⟩
  · simp only [List.getElem?_map, Option.map_eq_some_iff] at h1
    obtain ⟨u, hu, rfl⟩ := h1
    exact (hzr g w k u rv hu h2).2.1
  · simp only [List.getElem?_map, Option.map_eq_some_iff] at h1
    obtain ⟨u', hu, rfl⟩ := h1
    exact (hzr g w k u' u hu h2).2.2.1 id k

/-- A zero value in which a nil slice is just that. -/
def nilsOf (zs : List PV) : List PV := zs.map fun v => match v with | .sl _ _ [] => .nils | v => v
theorem zero_nils {t : TypeId} {ti : TI} (hT : C.T t = some ti) : ∃ i z, C.P.info? t = some i ∧ i.zero = some z ∧ CR g w (nilsOf ti.zero) z.cells := by
  obtain ⟨i, zv, hi, _, _, hz, hzs, hz1, hzl, hzr⟩ := (C.hT _ _ hT).info
  refine ⟨i, zv, hi, hz, by simp [nilsOf, hzl, hzs], fun k v rv h1 h2 => ?_, fun k rv h2 => hz1 _ (by rw [← Array.getElem?_toList] at h2; exact List.mem_of_getElem? h2)⟩
  simp only [nilsOf, List.getElem?_map, Option.map_eq_some_iff] at h1
  obtain ⟨u, hu, rfl⟩ := h1
  obtain ⟨q1, _, _, q4⟩ := hzr g w k u rv hu h2
  split
  · rw [q4 _ _ rfl]; exact .nils
  · exact q1

theorem pop_build {t : TypeId} {ps : Array (Nat × Operand)} (ho : o.op = .build t ps) (h : St n g w e S a.tmps) (hp : pop C o e = some v) : Doing C o g w a v := by
  unfold pop at hp
  rw [ho] at hp
  dsimp only at hp
  split at hp
  · rename_i fs sz by_ z hT
    cases hf : pfill (places fs) z (ps.toList.map fun p => (p.1, ev p.2 e)) with
    | none => rw [hf] at hp; cases hp
    | some out =>
      rw [hf] at hp
      simp only [Option.map_some, Option.some.injEq] at hp
      subst hp
      obtain ⟨arr, hu, hm, hfs⟩ := struct_fields (C := C) hT rfl
      obtain ⟨i, zv, hi, hz, hcr⟩ := zero_cr (C := C) (g := g) (w := w) hT
      obtain ⟨us, hus, hout⟩ := fill_rel (places fs) _ _ _ _ _ hcr (by simp) (map_lit_rel h) hf
      have hb : C.P.built t (ps.map fun (i, x) => (i, a.eval x)).toList = some us := by
        unfold Program.built
        rw [hi, hu]
        simp only [hz, hm]
        rw [← hus]
        congr 1
        funext k
        simp [places]
      refine Doing.bare h (.agg us) ?_ (.agg hout.len hout.one hout.rel) rfl
      simp only [execOp, ho, Sem.run_bind, run_build w t _ _ hb, Result.andThen_ok]
      rfl
  · rename_i m el sz by_ z hT
    split at hp
    · rename_i te hte
      cases hf : pfill (fun i => some (i * te.size, te.size)) z (ps.toList.map fun p => (p.1, ev p.2 e)) with
      | none => rw [hf] at hp; cases hp
      | some out =>
        rw [hf] at hp
        simp only [Option.map_some, Option.some.injEq] at hp
        subst hp
        have hu := und_array (C := C) hT rfl
        obtain ⟨i, zv, hi, hz, hcr⟩ := zero_cr (C := C) (g := g) (w := w) hT
        obtain ⟨ie, ze, hie, hsz, _⟩ := (C.hT _ _ hte).info
        obtain ⟨us, hus, hout⟩ := fill_rel _ _ _ _ _ _ hcr (by simp) (map_lit_rel h) hf
        have hb : C.P.built t (ps.map fun (i, x) => (i, a.eval x)).toList = some us := by
          unfold Program.built
          rw [hi, hu]
          simp only [hz, hie, hsz]
          exact hus
        refine Doing.bare h (.agg us) ?_ (.agg hout.len hout.one hout.rel) rfl
        simp only [execOp, ho, Sem.run_bind, run_build w t _ _ hb, Result.andThen_ok]
        rfl
    · cases hp
  · cases hp

theorem pop_box {t : TypeId} {x : Operand} (ho : o.op = .box t x) (h : St n g w e S a.tmps) (hp : pop C o e = some v) : Doing C o g w a v := by
  unfold pop at hp
  rw [ho] at hp
  dsimp only at hp
  cases hc : pcells (ev x e) with
  | none => rw [hc] at hp; cases hp
  | some cs =>
    rw [hc] at hp
    simp only [Option.map_some, Option.some.injEq] at hp
    subst hp
    have hcr := pcells_rel hc (h.ev x)
    refine ⟨.pointer (some ⟨w.heap.size, 0, none⟩), _, _, ?_, (rel_alloc h.new hcr t).1, fun d => .ofRel (rel_box h.new hcr t) rfl⟩
    simp only [execOp, ho, Instr.box, newVar, newRow, Sem.run_bind, run_newObj_alloc, Result.andThen_ok, Sem.run_pure]

theorem chunks_get {sz m : Nat} {cells : List PV} {j : Nat} {c : List PV} (h : (chunks sz m cells)[j]? = some c) : j < m ∧ c = (cells.drop (j * sz)).take sz := by
  unfold chunks at h
  simp only [List.getElem?_map, Option.map_eq_some_iff] at h
  obtain ⟨i, hi, hf⟩ := h
  obtain ⟨hk, he⟩ := List.getElem?_eq_some_iff.1 hi
  simp at hk he
  subst he
  exact ⟨hk, hf.symm⟩

theorem rel_row {g : Gh} {w : World} (hn : ∀ b o, w.heap.size ≤ b → g.lab b o = .free) {cs : List PV} {vs : Array Value} (h : CR g w cs vs) (t : TypeId) (f : Fl) (m sz cap : Nat) (hl : m * sz ≤ cs.length) (hm : m ≤ cap) :
    Rel (g.mark w.heap.size fun _ => .frozen) (w.alloc (.cells vs t)) (.sl f sz (chunks sz m cs)) (.slice (some ⟨w.heap.size, 0, none⟩) m cap) := by
  obtain ⟨_, hq⟩ := rel_alloc hn h t
  have hlen : (chunks sz m cs).length = m := by simp [chunks]
  have key : ∀ (j : Nat) (c : List PV) (k : Nat) (v : PV), (chunks sz m cs)[j]? = some c → c[k]? = some v → cs[j * sz + k]? = some v ∧ k < sz := by
    intro j c k v hj hk
    obtain ⟨hjm, rfl⟩ := chunks_get hj
    rw [List.getElem?_take] at hk
    split at hk
    · rw [List.getElem?_drop] at hk
      exact ⟨hk, by assumption⟩
    · cases hk
  have := @Rel.sl (g.mark w.heap.size fun _ => .frozen) (w.alloc (.cells vs t)) f sz (chunks sz m cs) w.heap.size 0 cap none (fun j k => vs.getD (j * sz + k) Go.undef) (by omega) (fun j c hj => by
    obtain ⟨hjm, rfl⟩ := chunks_get hj
    have : (j + 1) * sz ≤ m * sz := Nat.mul_le_mul_right _ hjm
    rw [Nat.add_mul] at this
    simp
    omega) (fun j c k v hj hk => by
    obtain ⟨h1, _⟩ := key j c k v hj hk
    obtain ⟨rv, q1, q2, q3, q4, q5⟩ := hq _ _ h1
    have : vs.getD (j * sz + k) Go.undef = rv := by simp [Array.getD_eq_getD_getElem?, q1]
    rw [this]
    simp only [Nat.zero_add]
    refine ⟨by simp [Gh.mark], q3, q4⟩) (fun j c k v hj hk => by
    obtain ⟨h1, _⟩ := key j c k v hj hk
    obtain ⟨rv, q1, q2, q3, q4, q5⟩ := hq _ _ h1
    have : vs.getD (j * sz + k) Go.undef = rv := by simp [Array.getD_eq_getD_getElem?, q1]
    rw [this]
    exact q5)
  have := this (.inr rfl)
  rwa [hlen] at this

theorem mod_idx (z : Array Value) (k : Nat) (h : 0 < z.size) : z[k % z.size]! = z.getD (k % z.size) Go.undef := by
  have := Nat.mod_lt k h
  simp [Array.getD, this]

theorem pop_buildSlice {t : TypeId} {m : Nat} {ps : Array (Nat × Operand)} (ho : o.op = .buildSlice t m ps) (h : St n g w e S a.tmps) (hp : pop C o e = some v) : Doing C o g w a v := by
  unfold pop at hp
  rw [ho] at hp
  dsimp only at hp
  split at hp
  · rename_i el _ _ _ hT
    split at hp
    · rename_i te hte
      split at hp
      · rename_i hc
        cases hf : pfill (fun i => some (i * te.size, te.size)) ((List.range (m * te.size)).map fun k => te.zero.getD (k % te.size) .undef) (ps.toList.map fun p => (p.1, ev p.2 e)) with
        | none => rw [hf] at hp; cases hp
        | some out =>
          rw [hf] at hp
          simp only [Option.map_some, Option.some.injEq] at hp
          subst hp
          have hu := und_slice (C := C) hT rfl
          obtain ⟨i, z, hi, hz, hcr⟩ := zero_cr (C := C) (g := g) (w := w) hte
          have hsz : z.cells.size = te.size := by
            have := hcr.len
            obtain ⟨_, _, _, _, _, _, _, _, hl, _⟩ := (C.hT _ _ hte).info
            omega
          have hcr0 : CR g w ((List.range (m * te.size)).map fun k => te.zero.getD (k % te.size) .undef) ((Array.range (m * te.size)).map (z.cells[· % z.cells.size]!)) := by
            refine ⟨by simp, fun k v rv h1 h2 => ?_, fun k rv h2 => ?_⟩
            · simp only [List.getElem?_map, Option.map_eq_some_iff] at h1
              obtain ⟨q, hq, rfl⟩ := h1
              obtain ⟨hk, he⟩ := List.getElem?_eq_some_iff.1 hq
              simp at hk he
              subst he
              simp only [Array.getElem?_map, Option.map_eq_some_iff] at h2
              obtain ⟨q, hq2, rfl⟩ := h2
              obtain ⟨hk2, he2⟩ := Array.getElem?_eq_some_iff.1 hq2
              simp at hk2 he2
              subst he2
              rw [mod_idx _ _ (by omega)]
              have hlt : k % te.size < te.size := Nat.mod_lt _ hc.2
              rw [hsz]
              exact hcr.rel (k % te.size) _ _ (by rw [List.getD_eq_getElem?_getD, List.getElem?_eq_getElem (by have := hcr.len; omega)]; rfl) (by rw [Array.getD_eq_getD_getElem?, Array.getElem?_eq_getElem (by omega)]; rfl)
            · simp only [Array.getElem?_map, Option.map_eq_some_iff] at h2
              obtain ⟨q, hq2, rfl⟩ := h2
              obtain ⟨hk2, he2⟩ := Array.getElem?_eq_some_iff.1 hq2
              simp at hk2 he2
              subst he2
              rw [mod_idx _ _ (by omega), hsz]
              have hlt : k % te.size < te.size := Nat.mod_lt _ hc.2
              exact hcr.one (k % te.size) _ (by rw [Array.getD_eq_getD_getElem?, Array.getElem?_eq_getElem (by omega)]; rfl)
          obtain ⟨us, hus, hout⟩ := fill_rel _ _ _ _ _ _ hcr0 (by simp) (map_lit_rel h) hf
          have hlen : out.length = m * te.size := by
            have hfl : ∀ (pp : List (Nat × PV)) (cells out : List PV), pfill (fun i => some (i * te.size, te.size)) cells pp = some out → out.length = cells.length := by
              intro pp
              induction pp with
              | nil => intro cells out h; simp only [pfill, Option.some.injEq] at h; rw [h]
              | cons p pp ih =>
                intro cells out h
                obtain ⟨i, u⟩ := p
                simp only [pfill] at h
                split at h
                · rename_i off size vc h1 h2
                  split at h
                  · rename_i h3
                    rw [ih _ _ h, (psplice_get _ _ _ (by rw [h3.1]; exact h3.2)).1]
                  · cases h
                · cases h
            rw [hfl _ _ _ hf]
            simp
          refine ⟨.slice (some ⟨w.heap.size, 0, none⟩) m m, _, _, ?_, (rel_alloc h.new hout el).1, fun d => ⟨rel_row h.new hout el .tail m te.size m (by omega) (Nat.le_refl _), .inr rfl, fun k k1 k2 => by
            have : (chunks te.size m out).length = m := by simp [chunks]
            rw [this] at k1
            omega⟩⟩
          have hns : ¬ (m * te.size > 2 ^ 24) := by omega
          simp only [execOp, ho, Instr.buildSlice, Sem.run_bind, run_underlying hu, Result.andThen_ok, C.sizeOf hte, if_neg hns]
          by_cases h0 : m * te.size = 0
          · rw [if_pos h0]
            have hr0 : Array.range (m * te.size) = #[] := by rw [h0]; rfl
            have hus' : Instr.fill (fun i => some (i * te.size, te.size)) ((Array.range (m * te.size)).map (fun x => (#[] : Array Value)[x % (#[] : Array Value).size]!)) (ps.map fun (i, x) => (i, a.eval x)).toList = some us := by
              rw [hr0, Array.map_empty] at hus ⊢
              exact hus
            simp only [Sem.run_pure, Result.andThen_ok, Sem.run_bind, hus', newRow, run_newObj_alloc]
          · rw [if_neg h0]
            simp only [Sem.run_pure, Result.andThen_ok, Sem.run_bind, zeroValue, typeInfo, program, Sem.run, hi, hz, hus, newRow, run_newObj_alloc]
      · cases hp
    · cases hp
  · cases hp
end
end Go.VL
