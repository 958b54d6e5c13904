/- VL, part 11: new variables; loads of objects; append. -/
import Derived.Test.YtmedhhjbknnfkaaVL10
set_option linter.unusedVariables false
set_option linter.unusedSimpArgs false
namespace Go.VL
open Go

section
variable {C : Ctx} {X : Fx} {o : Oper} {g : Gh} {w : World} {a : Act} {e : Env} {S : Store} {K : Env → Store → Prop} {R : Act → World → Prop} {Q : Exit → Act → World → Prop}

def Gh.more (g : Gh) (b : Nat) : Gh := { lab := fun b' o => if b' = b then .obj g.nxt else g.lab b' o, loc := fun id => if id = g.nxt then (b, 0) else g.loc id, nxt := g.nxt + 1 }

theorem Quiet.more (hn : ∀ b o, w.heap.size ≤ b → g.lab b o = .free) (ob : Obj) : Quiet g (g.more w.heap.size) w (w.alloc ob) := by
  have q := Quiet.alloc hn ob (fun _ => .obj g.nxt)
  exact ⟨⟨q.os, q.tape, q.output, q.size, q.frozen, q.foreign, q.own, q.kept, q.mark, q.some, q.block, fun id hi => by simp only [Gh.more]; rw [if_neg (by omega)], by simp [Gh.more]⟩, q.same, q.new⟩

theorem new_obj (h : St X.n g w e S a.tmps) {cs : List PV} {vs : Array Value} (hcr : CR g w cs vs) (hroom : ∀ (g : Gh) (w : World) (id k : Nat) v u, cs[k]? = some v → vs[k]? = some u → RoomOk g w id k v u) (t : TypeId) {d : Nat} (hd : d < X.n) :
    S g.nxt = none ∧ St X.n (g.more w.heap.size) (w.alloc (.cells vs t)) (e.put d (.ref g.nxt 0)) (S.set g.nxt (some cs)) (a.tmps.setIfInBounds d (.pointer (some ⟨w.heap.size, 0, none⟩))) := by
  have q := Quiet.more h.new (.cells vs t)
  have hS : S g.nxt = none := by
    cases hs : S g.nxt with
    | none => rfl
    | some cells => exact absurd (h.objs _ _ hs).lt (Nat.lt_irrefl _)
  have hl : (g.more w.heap.size).loc g.nxt = (w.heap.size, 0) := by simp [Gh.more]
  refine ⟨hS, ?_⟩
  have h1 := (h.quiet q).put (d := d) hd (v := .ref g.nxt 0) (rv := .pointer (some ⟨w.heap.size, 0, none⟩)) (.ofRel (by
    have := @Rel.ref (g.more w.heap.size) (w.alloc (.cells vs t)) g.nxt 0 (by simp [Gh.more])
    rw [hl] at this
    exact this) rfl)
  refine { h1 with objs := fun id cells hi => ?_ }
  simp only [Store.set] at hi
  split at hi
  · rename_i heq
    subst heq
    injection hi with hi
    subst hi
    refine ⟨by simp [Gh.more], fun k v hk => ?_⟩
    rw [hl]
    have hlt : k < vs.size := by rw [← hcr.len]; exact (List.getElem?_eq_some_iff.1 hk).1
    have he : vs[k]? = some vs[k] := Array.getElem?_eq_getElem hlt
    refine ⟨by simp [Gh.more], by simp, vs[k], ?_, hcr.one _ _ he, (hcr.rel k v _ hk he).mono q.toFr, hroom _ _ _ _ _ _ hk he⟩
    simp only [Nat.zero_add, World.cell?_alloc_new]
    exact he
  · exact (h.objs id cells hi).quiet q

theorem vAlloc_sound {t : TypeId} (ho : o.op = .alloc t) (h : St X.n g w e S a.tmps) (hv : vAlloc C X t o.dst K e S) (hR : Goes X g w a K R) : o.wp C.P a w R Q := by
  unfold vAlloc at hv
  split at hv
  · rename_i d ti hd hT
    split at hv
    · rename_i hdn
      obtain ⟨i, z, hi, hz, hcr⟩ := zero_cr (C := C) (g := g) (w := w) hT
      have hsz : z.cells.size = ti.size := by
        obtain ⟨_, _, _, _, _, _, _, _, hl, _⟩ := (C.hT _ _ hT).info
        rw [← hcr.len, hl]
      have hrun : (execOp a.eval o).run C.P w = .ok (.value (.pointer (some ⟨w.heap.size, 0, none⟩))) (w.alloc (.cells z.cells t)) := by
        simp only [execOp, ho, Instr.alloc, zeroValue, typeInfo, program, Sem.run_bind, Sem.run, hi, hz, Sem.run_pure, Result.andThen_ok, newVar, newRow, run_newObj_alloc]
      split at hv
      · obtain ⟨i2, z2, hi2, hz2, hcr2, hro2⟩ := zero_opn (C := C) hT
        rw [hi] at hi2
        injection hi2 with hi2
        subst hi2
        rw [hz] at hz2
        injection hz2 with hz2
        subst hz2
        obtain ⟨hS, hst⟩ := new_obj h (hcr2 g w) hro2 t hdn
        unfold Oper.wp
        rw [hrun, Oper.upon_value, hd]
        exact hR _ _ _ _ _ (hv g.nxt hS) (by rw [put_tmps]; exact hst) (put_defers _ _ _) (Quiet.more h.new _).toFr
      · have q := Quiet.alloc h.new (.cells z.cells t) (fun _ => .slot d)
        refine vPut_sound hd hdn hv h hrun q ⟨.fresh _, ⟨rfl, by simp, fun o => by simp⟩, fun k hk => ⟨by simp [Gh.mark], ?_, by simp⟩⟩ hR
        simp only [Nat.zero_add, World.cell?_alloc_new]
        rw [Array.getElem?_eq_getElem (by omega)]
        rfl
    · exact hv.elim
  · exact hv.elim

theorem vBox_sound {t : TypeId} {x : Operand} (ho : o.op = .box t x) (h : St X.n g w e S a.tmps) (hv : vBox C X o x o.dst K e S) (hR : Goes X g w a K R) : o.wp C.P a w R Q := by
  unfold vBox at hv
  split at hv
  · rename_i d hd
    split at hv
    · split at hv
      · rename_i cs hcs
        split at hv
        · rename_i hdn
          have hcr := pcells_rel hcs (h.ev x)
          have hcrb : CR g w (cs.map PV.bare) (a.eval x).cells := ⟨by simpa using hcr.len, fun k v rv hk hrv => by
            simp only [List.getElem?_map, Option.map_eq_some_iff] at hk
            obtain ⟨u, hu, rfl⟩ := hk
            exact (hcr.rel k u rv hu hrv).bare, hcr.one⟩
          obtain ⟨hS, hst⟩ := new_obj h hcrb (fun g w id k v u hk _ => by
            simp only [List.getElem?_map, Option.map_eq_some_iff] at hk
            obtain ⟨u', hu, rfl⟩ := hk
            exact RoomOk.bare _ _ _ _ _ _) t hdn
          have hrun : (execOp a.eval o).run C.P w = .ok (.value (.pointer (some ⟨w.heap.size, 0, none⟩))) (w.alloc (.cells (a.eval x).cells t)) := by
            simp only [execOp, ho, Instr.box, newVar, newRow, Sem.run_bind, run_newObj_alloc, Result.andThen_ok, Sem.run_pure]
          unfold Oper.wp
          rw [hrun, Oper.upon_value, hd]
          exact hR _ _ _ _ _ (hv g.nxt hS) (by rw [put_tmps]; exact hst) (put_defers _ _ _) (Quiet.more h.new _).toFr
        · exact hv.elim
      · exact hv.elim
    · split at hv
      · split at hv
        · rename_i cs hcs
          split at hv
          · rename_i hdn
            have hcr := pcells_rel hcs (h.ev x)
            have q := (rel_alloc h.new hcr t).1
            have hrel := rel_box h.new hcr t
            have hrun : (execOp a.eval o).run C.P w = .ok (.value (.pointer (some ⟨w.heap.size, 0, none⟩))) (w.alloc (.cells (a.eval x).cells t)) := by
              simp only [execOp, ho, Instr.box, newVar, newRow, Sem.run_bind, run_newObj_alloc, Result.andThen_ok, Sem.run_pure]
            refine vPut_sound hd hdn hv h hrun q (.ofRel ?_ rfl) hR
            cases hrel with
            | @ip _ _ _ o2 f h1 h2 => exact .np f ⟨by simp, fun o => by simp⟩ h1 h2
          · exact hv.elim
        · exact hv.elim
      · exact vPop_sound h (by rw [hd]; exact hv) hR
  · exact hv.elim

theorem pload_obj {ti : TI} {t : TypeId} (ht : C.T t = some ti) {id off : Nat} {cells : List PV} {v : PV} {rv : Value} (hob : ObjOk g w id cells) (hl : pload ti cells off = some v) (hr : Rel g w (.ref id off) rv) :
    ∃ ad x, rv = .pointer (some ad) ∧ (loadVar t ad).run C.P w = .ok x w ∧ Rel g w v x ∧ v.bare = v := by
  cases hr with
  | ref hn =>
    refine ⟨⟨(g.loc id).1, (g.loc id).2 + off, none⟩, ?_⟩
    let f : Nat → Value := fun k => (w.cell? ⟨(g.loc id).1, (g.loc id).2 + k, none⟩).getD Go.undef
    have hf : ∀ (k : Nat) v, cells[k]? = some v → w.cell? ⟨(g.loc id).1, (g.loc id).2 + k, none⟩ = some (f k) ∧ (f k).oneCell' = true ∧ Rel g w v (f k) := by
      intro k v hk
      obtain ⟨_, _, u, h3, h4, h5, _⟩ := hob.cell k v hk
      have : f k = u := by show (w.cell? _).getD _ = u; rw [h3]; rfl
      rw [this]
      exact ⟨h3, h4, h5⟩
    unfold pload at hl
    unfold loadVar
    split at hl
    · rename_i hag
      split at hl
      · rename_i hle
        cases hl
        have hrun := run_loadCells (P := C.P) w ⟨(g.loc id).1, (g.loc id).2 + off, none⟩ ti.size (fun j => f (off + j)) (fun j hj => by
          have hk : cells[off + j]? = some cells[off + j] := List.getElem?_eq_getElem (by omega)
          have := (hf _ _ hk).1
          rw [Addr.add_lit, Nat.add_assoc]
          exact this)
        refine ⟨.agg ((List.range ti.size).map fun j => f (off + j)).toArray, rfl, ?_, ?_, rfl⟩
        · simp only [Sem.run_bind, C.isAgg ht, Result.andThen_ok, hag, if_true, C.sizeOf ht, hrun]
          rfl
        · refine .agg (by simp; omega) (fun k rv hk => ?_) (fun k v rv hv hk => ?_)
          · obtain ⟨hlt, rfl⟩ := range_map hk
            exact (hf (off + k) _ (List.getElem?_eq_getElem (by omega))).2.1
          · obtain ⟨hlt, rfl⟩ := range_map hk
            rw [List.getElem?_take, if_pos hlt, List.getElem?_drop] at hv
            exact (hf _ _ hv).2.2
      · cases hl
    · rename_i hag
      cases hc : cells[off]? with
      | none => rw [hc] at hl; cases hl
      | some u =>
        rw [hc] at hl
        simp only [Option.map_some, Option.some.injEq] at hl
        subst hl
        have := (hf _ _ hc).1
        refine ⟨f off, rfl, ?_, (hf _ _ hc).2.2.bare, PV.bare_bare u⟩
        have hag' : ti.k.agg = false := by simpa using hag
        simp only [Sem.run_bind, C.isAgg ht, Result.andThen_ok, hag', Bool.false_eq_true, if_false]
        simp [load, Sem.run, this]

/-- An object's cell gives its room to a slot. -/
def Gh.take (g : Gh) (id k d : Nat) : Gh := { g with lab := fun b o => if g.lab b o = .room id k then .slot d else g.lab b o }
theorem Fr.take (g : Gh) (w : World) (id k d : Nat) : Fr g (g.take id k d) w w where
  os := rfl
  tape := rfl
  output := rfl
  size := Nat.le_refl _
  frozen b o hl := by simp [Gh.take, hl]
  foreign b o hl := by simp [Gh.take, hl]
  own b o hb hl := by
    simp only [Gh.take] at hl
    split at hl
    · rename_i hs; rw [hs]; trivial
    · exact hl
  kept _ _ _ _ := rfl
  mark _ _ _ := rfl
  some _ _ h := h
  block _ _ _ := rfl
  loc _ _ := rfl
  nxt := Nat.le_refl _
theorem St.take {n : Nat} {tmps : Array Value} (h : St n g w e S tmps) {id k d : Nat} {cells : List PV} {v : PV} {rv : Value} (hS : S id = some cells) (hc : cells[k]? = some v) (hd : d < n) (hsl : isSl v = true) (h3 : w.cell? ⟨(g.loc id).1, (g.loc id).2 + k, none⟩ = some rv) :
    St n (g.take id k d) w (e.put d v) (S.set id (some (psplice cells k [v.bare]))) (tmps.setIfInBounds d rv) where
  size := by simp [h.size]
  slots t ht := by
    by_cases e1 : t = d
    · subst e1
      rw [getD_set_self _ _ _ _ (by rw [h.size]; exact ht)]
      obtain ⟨_, _, u, q3, q4, q5, q6⟩ := (h.objs _ _ hS).cell k v hc
      rw [h3] at q3
      injection q3 with q3
      subst q3
      simp only [Env.put, if_true]
      refine ⟨q5.mono (Fr.take g w id k t), ?_⟩
      have key : ∀ b o, g.lab b o = .room id k → (g.take id k t).lab b o = .slot t := by
        intro b o hl
        simp [Gh.take, hl]
      cases v with
      | sl f sz rows =>
        cases f with
        | no => simp [Tail]
        | tail =>
          cases rv with
          | slice a l cap =>
            cases a with
            | none => simp [Tail]
            | some a =>
              simp only [RoomOk] at q6
              simp only [Tail]
              exact ⟨q6.1, fun k h1 h2 => ⟨key _ _ (q6.2 k h1 h2).1, (q6.2 k h1 h2).2⟩⟩
          | _ => simp [Tail]
      | _ => simp [isSl] at hsl
    · rw [getD_set_ne _ _ _ _ _ e1]
      simp only [Env.put, if_neg e1]
      have htt := h.slots t ht
      have key : ∀ b o, g.lab b o = .slot t → (g.take id k d).lab b o = .slot t := by
        intro b o hl
        simp only [Gh.take, hl]
        rw [if_neg (by simp)]
      refine ⟨htt.rel.mono (Fr.take g w id k d), ?_⟩
      have htl := htt.tail
      unfold Tail at *
      split at htl
      · exact ⟨htl.1, fun k h1 h2 => ⟨key _ _ (htl.2 k h1 h2).1, (htl.2 k h1 h2).2⟩⟩
      · exact ⟨htl.1, fun k h1 h2 => ⟨key _ _ (htl.2 k h1 h2).1, (htl.2 k h1 h2).2⟩⟩
      · exact ⟨htl.1, fun k h1 => ⟨key _ _ (htl.2 k h1).1, (htl.2 k h1).2⟩⟩
      · trivial
  beyond t ht := by
    simp only [Env.put]
    rw [if_neg (by omega)]
    exact h.beyond t ht
  objs id' cells' hi := by
    have fr := Fr.take g w id k d
    have move : ∀ {k' : Nat} {u : PV} {ru : Value}, (id' ≠ id ∨ k' ≠ k) → RoomOk g w id' k' u ru → RoomOk (g.take id k d) w id' k' u ru := by
      intro k' u ru hne hro
      refine hro.map fun b o ⟨c1, c2⟩ => ⟨?_, c2⟩
      simp only [Gh.take]
      rw [if_neg (by rw [c1]; simp; rcases hne with e1 | e1 <;> simp [e1]), c1]
    have lab : ∀ {b o i : Nat}, g.lab b o = .obj i → (g.take id k d).lab b o = .obj i := by
      intro b o i hl
      simp only [Gh.take, hl]
      rw [if_neg (by simp)]
    simp only [Store.set] at hi
    split at hi
    · rename_i heq
      subst heq
      injection hi with hi
      subst hi
      have hob := h.objs id' cells hS
      have hlt : k < cells.length := (List.getElem?_eq_some_iff.1 hc).1
      obtain ⟨p1, p2⟩ := psplice_get cells k [v.bare] (by simp only [List.length_cons, List.length_nil]; omega)
      refine ⟨hob.lt, fun k' u hk => ?_⟩
      rw [p2] at hk
      by_cases hin : k ≤ k' ∧ k' < k + [v.bare].length
      · rw [if_pos hin] at hk
        have : k' = k := by simp at hin; omega
        subst this
        simp at hk
        subst hk
        obtain ⟨q1, q2, ru, q3, q4, q5, q6⟩ := hob.cell k' v hc
        exact ⟨lab q1, q2, ru, q3, q4, q5.bare.mono fr, RoomOk.bare _ _ _ _ _ _⟩
      · rw [if_neg hin] at hk
        obtain ⟨q1, q2, ru, q3, q4, q5, q6⟩ := hob.cell k' u hk
        exact ⟨lab q1, q2, ru, q3, q4, q5.mono fr, move (.inr (by simp at hin; omega)) q6⟩
    · rename_i hne
      have hob := h.objs id' cells' hi
      refine ⟨hob.lt, fun k' u hk => ?_⟩
      obtain ⟨q1, q2, ru, q3, q4, q5, q6⟩ := hob.cell k' u hk
      exact ⟨lab q1, q2, ru, q3, q4, q5.mono fr, move (.inl (by simpa using hne)) q6⟩
  new b o hb := by
    have := h.new b o hb
    simp [Gh.take, this]

theorem vLoad_sound {t : TypeId} {x : Operand} (ho : o.op = .load t x) (h : St X.n g w e S a.tmps) (hv : vLoad C X o t x K e S) (hR : Goes X g w a K R) : o.wp C.P a w R Q := by
  unfold vLoad at hv
  split at hv
  · rename_i id off ti hx hT
    split at hv
    · rename_i cells hS
      unfold vTake at hv
      split at hv
      · rename_i d hd
        have hr := h.ev x
        rw [hx] at hr
        split at hv
        · split at hv
          · rename_i _ _ v hag hc
            split at hv
            · rename_i hdn
              have hob := h.objs _ _ hS
              obtain ⟨h1, h2, rv, h3, h4, h5, h6⟩ := hob.cell off v hc
              generalize hq : a.eval x = q at hr
              cases hr with
              | ref hn =>
                have hag' : ti.k.agg = false := hag
                have hrun : (execOp a.eval o).run C.P w = .ok (.value rv) w := by
                  simp only [execOp, ho, hq, Instr.loadAt, Instr.sureAddr, Sem.run_bind, Sem.run_pure, Result.andThen_ok, loadVar, C.isAgg hT, hag', Bool.false_eq_true, if_false]
                  simp [load, Sem.run, h3]
                unfold Oper.wp
                rw [hrun, Oper.upon_value, hd]
                exact hR _ _ _ w _ hv (by rw [put_tmps]; exact h.take hS hc hdn.1 hdn.2 h3) (put_defers _ _ _) (Fr.take g w id off d)
            · exact hv.elim
          · exact hv.elim
        · unfold vPut at hv
          split at hv
          · rename_i d v hd2 hp
            injection hd2 with hd2
            subst hd2
            split at hv
            · rename_i hdn
              obtain ⟨ad, y, h1, h2, h3, h4⟩ := pload_obj hT (h.objs _ _ hS).bareCells hp hr
              refine vPut_sound hd hdn hv h (rv := y) ?_ (Quiet.refl h.new) (.ofRel h3 h4) hR
              simp only [execOp, ho, h1, Instr.loadAt, Instr.sureAddr, Sem.run_bind, Sem.run_pure, Result.andThen_ok, h2]
            · exact hv.elim
          · exact hv.elim
      · exact hv.elim
    · exact hv.elim
  · exact vPop_sound h hv hR

/-! ### append -/
/-- A slice's rows as one list of cells. -/
theorem sl_cells {f : Fl} {sz : Nat} {rows : List (List PV)} {b o' cap : Nat} {sp : Option Nat} (hsz : 0 < sz) (h : Rel g w (.sl f sz rows) (.slice (some ⟨b, o', sp⟩) rows.length cap)) :
    ∃ vs : List Value, vs.length = rows.length * sz ∧ (∀ (j : Nat) u, vs[j]? = some u → w.cell? (Addr.add ⟨b, o', sp⟩ j) = some u ∧ u.oneCell' = true) ∧
      (∀ (j : Nat) c, rows[j]? = some c → c.length = sz) ∧ ∀ (j : Nat) (c : List PV) (k : Nat) v, rows[j]? = some c → c[k]? = some v → ∃ u, vs[j * sz + k]? = some u ∧ Rel g w v u := by
  cases h with
  | sl fv hc hl h1 h2 hs =>
    rcases hs with rfl | rfl
    · exact ⟨[], by simp, by simp, by simp, by simp⟩
    have hrow : ∀ i, i < rows.length * sz → ∃ c v, rows[i / sz]? = some c ∧ c[i % sz]? = some v := by
      intro i hi
      have hlt : i / sz < rows.length := (Nat.div_lt_iff_lt_mul hsz).2 hi
      have he : rows[i / sz]? = some rows[i / sz] := List.getElem?_eq_getElem hlt
      have hm : i % sz < (rows[i / sz]).length := by rw [hl _ _ he]; exact Nat.mod_lt _ hsz
      exact ⟨_, _, he, List.getElem?_eq_getElem hm⟩
    refine ⟨(List.range (rows.length * sz)).map fun i => fv (i / sz) (i % sz), by simp, fun j u hj => ?_, hl, fun j c k v hj hk => ?_⟩
    · simp only [List.getElem?_map, Option.map_eq_some_iff] at hj
      obtain ⟨i, hi, rfl⟩ := hj
      obtain ⟨hlt, he⟩ := List.getElem?_eq_some_iff.1 hi
      simp at hlt he
      subst he
      obtain ⟨c, v, e1, e2⟩ := hrow j hlt
      have := h1 _ _ _ _ e1 e2
      rw [Nat.div_add_mod' j sz] at this
      rw [Addr.add_lit]
      exact ⟨this.2.1, this.2.2⟩
    · have hks : k < sz := by rw [← hl _ _ hj]; exact (List.getElem?_eq_some_iff.1 hk).1
      have hjl : j < rows.length := (List.getElem?_eq_some_iff.1 hj).1
      have hlt : j * sz + k < rows.length * sz := by
        have : (j + 1) * sz ≤ rows.length * sz := Nat.mul_le_mul_right _ hjl
        rw [Nat.add_mul] at this
        omega
      refine ⟨fv j k, ?_, h2 _ _ _ _ hj hk⟩
      simp only [List.getElem?_map]
      rw [List.getElem?_range hlt]
      have d1 : (j * sz + k) / sz = j := by rw [Nat.mul_comm, Nat.mul_add_div hsz, Nat.div_eq_of_lt hks, Nat.add_zero]
      have d2 : (j * sz + k) % sz = k := by rw [Nat.mul_comm, Nat.mul_add_mod, Nat.mod_eq_of_lt hks]
      simp [d1, d2]

structure SrcOf (C : Ctx) (g : Gh) (w : World) (sz : Nat) (tx : TypeId) (x : Value) (more : List (List PV)) (news : List Value) : Prop where
  src : Src C.P sz tx x more.length news w
  len : ∀ (j : Nat) c, more[j]? = some c → c.length = sz
  rel : ∀ (j : Nat) (c : List PV) (k : Nat) v, more[j]? = some c → c[k]? = some v → ∃ u, news[j * sz + k]? = some u ∧ Rel g w v u

theorem src_of_sl {f : Fl} {sz : Nat} {rows : List (List PV)} {tx el : TypeId} {x : Value} (hsz : 0 < sz) (hu : C.P.underlying tx = some (.slice el)) (h : Rel g w (.sl f sz rows) x) : ∃ news, SrcOf C g w sz tx x rows news := by
  rcases sl_parts h with ⟨rfl, rfl⟩ | ⟨b, o', sp, cap, rfl, hcap, hsp⟩
  · exact ⟨[], Src.ofNil w hu 0, by simp, by simp⟩
  · obtain ⟨vs, h1, h2, h3, h4⟩ := sl_cells hsz h
    exact ⟨vs, Src.ofSlice w hu _ _ _ vs h1 (fun j u hj => (h2 j u hj).1) (fun u hu => by obtain ⟨j, hj⟩ := List.mem_iff_getElem?.1 hu; exact (h2 j u hj).2), h3, h4⟩

theorem src_of_str {s : ByteArray} {tx : TypeId} (hu : C.P.underlying tx = some .string) : SrcOf C g w 1 tx (.string s) (s.data.toList.map fun c => [.int .u8 (c.toNat : Int)]) (byteCells s) := by
  have hlen : (s.data.toList.map fun c => ([.int .u8 (c.toNat : Int)] : List PV)).length = s.size := by simp
  refine ⟨by rw [hlen]; exact Src.ofString w hu s, fun j c hj => ?_, fun j c k v hj hk => ?_⟩
  · simp only [List.getElem?_map, Option.map_eq_some_iff] at hj
    obtain ⟨u, _, rfl⟩ := hj
    rfl
  · simp only [List.getElem?_map, Option.map_eq_some_iff] at hj
    obtain ⟨u, hu, rfl⟩ := hj
    rcases k with _ | k <;> simp at hk
    subst hk
    refine ⟨.int .u8 u.toNat, ?_, .int _ _⟩
    simp only [byteCells, List.getElem?_map, Nat.mul_one, Nat.add_zero, hu, Option.map_some]

/-- Rows out of cells. -/
theorem Rel.rows {f : Fl} {sz : Nat} {rows : List (List PV)} {b o' cap : Nat} (hc : rows.length ≤ cap) (hl : ∀ (j : Nat) (c : List PV), rows[j]? = some c → c.length = sz)
    (h : ∀ (j : Nat) (c : List PV) (k : Nat) (v : PV), rows[j]? = some c → c[k]? = some v → g.lab b (o' + (j * sz + k)) = .frozen ∧ ∃ u, w.cell? ⟨b, o' + (j * sz + k), none⟩ = some u ∧ u.oneCell' = true ∧ Rel g w v u) :
    Rel g w (.sl f sz rows) (.slice (some ⟨b, o', none⟩) rows.length cap) := by
  have key : ∀ (j : Nat) (c : List PV) (k : Nat) (v : PV), rows[j]? = some c → c[k]? = some v → w.cell? ⟨b, o' + (j * sz + k), none⟩ = some ((w.cell? ⟨b, o' + (j * sz + k), none⟩).getD Go.undef) ∧ ((w.cell? ⟨b, o' + (j * sz + k), none⟩).getD Go.undef).oneCell' = true ∧ Rel g w v ((w.cell? ⟨b, o' + (j * sz + k), none⟩).getD Go.undef) := by
    intro j c k v hj hk
    obtain ⟨_, u, h2, h3, h4⟩ := h j c k v hj hk
    rw [h2]
    exact ⟨rfl, h3, h4⟩
  exact .sl (fun j k => (w.cell? ⟨b, o' + (j * sz + k), none⟩).getD Go.undef) hc hl (fun j c k v hj hk => ⟨(h j c k v hj hk).1, (key j c k v hj hk).1, (key j c k v hj hk).2.1⟩) (fun j c k v hj hk => (key j c k v hj hk).2.2)
end
end Go.VL
