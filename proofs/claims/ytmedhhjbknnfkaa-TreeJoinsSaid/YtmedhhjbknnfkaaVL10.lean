/- VL, part 10: new variables, stores. -/
import Derived.Test.YtmedhhjbknnfkaaVL9
set_option linter.unusedVariables false
set_option linter.unusedSimpArgs false
namespace Go.VL
open Go

section
variable {C : Ctx} {X : Fx} {o : Oper} {g : Gh} {w : World} {a : Act} {e : Env} {S : Store} {K : Env → Store → Prop} {R : Act → World → Prop} {Q : Exit → Act → World → Prop}

def Gh.range (g : Gh) (b0 o0 n : Nat) (l : Lab) : Gh := { g with lab := fun b o => if b = b0 ∧ o0 ≤ o ∧ o < o0 + n then l else g.lab b o }

theorem setCells_size (b : Nat) : ∀ (vs : List Value) (o : Nat) (w : World), (w.setCells b o vs).heap.size = w.heap.size ∧ (w.setCells b o vs).os = w.os ∧ (w.setCells b o vs).tape = w.tape ∧ (w.setCells b o vs).output = w.output ∧ ∀ k, k ≠ b → (w.setCells b o vs).heap[k]? = w.heap[k]?
  | [], o, w => ⟨rfl, rfl, rfl, rfl, fun _ _ => rfl⟩
  | v :: vs, o, w => by
    have ih := setCells_size b vs (o + 1) (w.setCell ⟨b, o, none⟩ v)
    simp only [World.setCells]
    refine ⟨ih.1.trans (by simp), ih.2.1.trans rfl, ih.2.2.1.trans rfl, ih.2.2.2.1.trans rfl, fun k hk => (ih.2.2.2.2 k hk).trans (RowKit.Below.heap_setCell w _ v k hk)⟩

theorem set_out {b o : Nat} {vs : List Value} {b' o' : Nat} (h : ¬ (b' = b ∧ o ≤ o' ∧ o' < o + vs.length)) : (w.setCells b o vs).cell? ⟨b', o', none⟩ = w.cell? ⟨b', o', none⟩ :=
  World.cell?_setCells_out b vs o w ⟨b', o', none⟩ (fun hb _ => by
    dsimp only at hb ⊢
    by_cases h1 : o ≤ o'
    · right
      have : ¬ o' < o + vs.length := fun h2 => h ⟨hb, h1, h2⟩
      omega
    · left; omega)

theorem Fr.write {b o : Nat} {vs : List Value} {l : Lab} (hown : ∀ k, k < vs.length → (g.lab b (o + k)).own) (hc : ∀ k, k < vs.length → (w.cell? ⟨b, o + k, none⟩).isSome = true) (hl : l = .frozen ∨ l.own) :
    Fr g (g.range b o vs.length l) w (w.setCells b o vs) := by
  obtain ⟨s1, s2, s3, s4, s5⟩ := setCells_size b vs o w
  have inr : ∀ b' o', (b' = b ∧ o ≤ o' ∧ o' < o + vs.length) → (g.lab b' o').own := by
    rintro b' o' ⟨rfl, h1, h2⟩
    have := hown (o' - o) (by omega)
    rwa [show o + (o' - o) = o' from by omega] at this
  refine ⟨s2, s3, s4, by omega, fun b' o' h => ?_, fun b' o' h => ?_, fun b' o' hb h => ?_, fun b' o' hb h => ?_, fun b' o' hb => World.frozen?_setCells b vs o w _, fun b' o' h => ?_, fun b' hb h => ?_, fun _ _ => rfl, Nat.le_refl _⟩
  · simp only [Gh.range]
    split
    · rename_i hin; have := inr _ _ hin; rw [h] at this; exact this.elim
    · exact h
  · simp only [Gh.range]
    split
    · rename_i hin; have := inr _ _ hin; rw [h] at this; exact this.elim
    · exact h
  · simp only [Gh.range] at h
    split at h
    · rename_i hin; exact inr _ _ hin
    · exact h
  · exact set_out fun hin => h (inr _ _ hin)
  · by_cases hin : b' = b ∧ o ≤ o' ∧ o' < o + vs.length
    · obtain ⟨rfl, h1, h2⟩ := hin
      have := World.cell?_setCells_in b' vs o w hc (o' - o) (by omega)
      rw [show o + (o' - o) = o' from by omega] at this
      rw [this]; rfl
    · rw [set_out hin]; exact h
  · by_cases hb' : b' = b
    · subst hb'
      cases vs with
      | nil => rfl
      | cons v vs => exact absurd (hown 0 (by simp)) (h _)
    · exact s5 b' hb'

/-- What is labelled otherwise is not touched by a write. -/
theorem write_other {b o : Nat} {vs : List Value} {L l : Lab} (hL : ∀ k, k < vs.length → g.lab b (o + k) = L) {b' o' : Nat} (h : g.lab b' o' ≠ L) :
    (w.setCells b o vs).cell? ⟨b', o', none⟩ = w.cell? ⟨b', o', none⟩ ∧ (g.range b o vs.length l).lab b' o' = g.lab b' o' := by
  have hin : ¬ (b' = b ∧ o ≤ o' ∧ o' < o + vs.length) := by
    rintro ⟨rfl, h1, h2⟩
    have := hL (o' - o) (by omega)
    rw [show o + (o' - o) = o' from by omega] at this
    exact h this
  exact ⟨set_out hin, by simp only [Gh.range]; rw [if_neg hin]⟩

theorem Tail.write {b o : Nat} {vs : List Value} {L l : Lab} (hL : ∀ k, k < vs.length → g.lab b (o + k) = L) {t : Nat} (ht : Lab.slot t ≠ L) {v : PV} {rv : Value} (h : Tail g w t v rv) : Tail (g.range b o vs.length l) (w.setCells b o vs) t v rv := by
  have key : ∀ b' o', g.lab b' o' = .slot t ∧ (w.cell? ⟨b', o', none⟩).isSome = true ∧ w.frozen? ⟨b', o', none⟩ = false →
      (g.range b o vs.length l).lab b' o' = .slot t ∧ ((w.setCells b o vs).cell? ⟨b', o', none⟩).isSome = true ∧ (w.setCells b o vs).frozen? ⟨b', o', none⟩ = false := by
    rintro b' o' ⟨h1, h2, h3⟩
    obtain ⟨k1, k2⟩ := write_other (w := w) (l := l) hL (b' := b') (o' := o') (by rw [h1]; exact ht)
    exact ⟨k2.trans h1, by rw [k1]; exact h2, by rw [World.frozen?_setCells]; exact h3⟩
  unfold Tail at *
  split at h
  · exact ⟨h.1, fun k h1 h2 => key _ _ (h.2 k h1 h2)⟩
  · exact ⟨h.1, fun k h1 h2 => key _ _ (h.2 k h1 h2)⟩
  · exact ⟨⟨h.1.1, by rw [(setCells_size b vs o w).1]; exact h.1.2.1, fun o' => by rw [World.frozen?_setCells]; exact h.1.2.2 o'⟩, fun k h1 => key _ _ (h.2 k h1)⟩
  · trivial

theorem RoomOk.write {b o : Nat} {vs : List Value} {L l : Lab} (hL : ∀ k, k < vs.length → g.lab b (o + k) = L) {id k0 : Nat} (ht : Lab.room id k0 ≠ L) {v : PV} {rv : Value} (h : RoomOk g w id k0 v rv) : RoomOk (g.range b o vs.length l) (w.setCells b o vs) id k0 v rv :=
  h.map fun b' o' ⟨h1, h2, h3⟩ => by
    obtain ⟨k1, k2⟩ := write_other (w := w) (l := l) hL (b' := b') (o' := o') (by rw [h1]; exact ht)
    exact ⟨k2.trans h1, by rw [k1]; exact h2, by rw [World.frozen?_setCells]; exact h3⟩

theorem ObjOk.write {b o : Nat} {vs : List Value} {L l : Lab} (hL : ∀ k, k < vs.length → g.lab b (o + k) = L) {id : Nat} (hid : Lab.obj id ≠ L) (hir : ∀ k, Lab.room id k ≠ L) {cells : List PV} (fr : Fr g (g.range b o vs.length l) w (w.setCells b o vs)) (h : ObjOk g w id cells) :
    ObjOk (g.range b o vs.length l) (w.setCells b o vs) id cells where
  lt := h.lt
  cell k v hk := by
    obtain ⟨h1, h2, rv, h3, h4, h5, h6⟩ := h.cell k v hk
    obtain ⟨k1, k2⟩ := write_other (w := w) (l := l) hL (b' := (g.loc id).1) (o' := (g.loc id).2 + k) (by rw [h1]; exact hid)
    exact ⟨k2.trans h1, by rw [World.frozen?_setCells]; exact h2, rv, k1.trans h3, h4, h5.mono fr, RoomOk.write hL (hir k) h6⟩

theorem cr_list {cs : List PV} {vs : Array Value} (h : CR g w cs vs) : ∀ v ∈ vs.toList, v.oneCell' = true := by
  intro v hv
  obtain ⟨k, hk⟩ := List.mem_iff_getElem?.1 hv
  exact h.one k v (by rwa [Array.getElem?_toList] at hk)

theorem storeVar_run {P : Program} {t : TypeId} {sz : Nat} (hsz : ∀ w : World, (sizeOf t).run P w = .ok sz w) {b o : Nat} {v : Value} (hv : v.cells.size = sz) (hc : ∀ k, k < sz → (w.cell? ⟨b, o + k, none⟩).isSome = true) (hf : ∀ k, k < sz → w.frozen? ⟨b, o + k, none⟩ = false)
    (h1 : ∀ u ∈ v.cells.toList, u.oneCell' = true) : (storeVar t ⟨b, o, none⟩ v).run P w = .ok () (w.setCells b o v.cells.toList) := by
  have hr := run_storeCells_cells (P := P) b o v.cells.toList 0 w (by simpa [hv] using hc) (by simpa [hv] using hf) h1
  simp only [Nat.add_zero] at hr
  unfold storeVar
  simp only [Sem.run_bind, hsz, Result.andThen_ok, hv, ne_eq, not_true_eq_false, if_false, Sem.run_pure]
  exact hr

theorem range_in {b o n o' : Nat} (h1 : o ≤ o') (h2 : o' < o + n) (l : Lab) : (g.range b o n l).lab b o' = l := if_pos ⟨rfl, h1, h2⟩
theorem range_out {b o n o' : Nat} (h : ¬ (o ≤ o' ∧ o' < o + n)) (l : Lab) : (g.range b o n l).lab b o' = g.lab b o' := if_neg (fun hh => h hh.2)
theorem range_frozen {b o n : Nat} {k : Nat} (h : k < n) (l : Lab) : (g.range b o n l).lab b (o + k) = l := range_in (by omega) (by omega) l

/-- A value is put into an object. -/
theorem obj_store {n : Nat} {tmps : Array Value} (h : St n g w e S tmps) {id off : Nat} {cells cs : List PV} {vs : Array Value} (hS : S id = some cells) (hcr : CR g w cs vs) (hroom : ∀ (k : Nat) v rv, cs[k]? = some v → vs[k]? = some rv → RoomOk g w id (off + k) v rv) (hle : off + cs.length ≤ cells.length) :
    (∀ k, k < cs.length → (w.cell? ⟨(g.loc id).1, (g.loc id).2 + off + k, none⟩).isSome = true) ∧ (∀ k, k < cs.length → w.frozen? ⟨(g.loc id).1, (g.loc id).2 + off + k, none⟩ = false) ∧
    ∃ g', Fr g g' w (w.setCells (g.loc id).1 ((g.loc id).2 + off) vs.toList) ∧ St n g' (w.setCells (g.loc id).1 ((g.loc id).2 + off) vs.toList) e (S.set id (some (psplice cells off cs))) tmps := by
  have hob := h.objs id cells hS
  have hvs : vs.size = cs.length := hcr.len.symm
  have hlen : vs.toList.length = cs.length := by simpa using hvs
  have hcell : ∀ k, k < cs.length → g.lab (g.loc id).1 ((g.loc id).2 + off + k) = .obj id ∧ (w.cell? ⟨(g.loc id).1, (g.loc id).2 + off + k, none⟩).isSome = true ∧ w.frozen? ⟨(g.loc id).1, (g.loc id).2 + off + k, none⟩ = false := by
    intro k hk
    have hk2 : off + k < cells.length := by omega
    obtain ⟨h1, h2, rv, h3, _⟩ := hob.cell (off + k) _ (List.getElem?_eq_getElem hk2)
    rw [Nat.add_assoc]
    exact ⟨h1, by rw [h3]; rfl, h2⟩
  refine ⟨fun k hk => (hcell k hk).2.1, fun k hk => (hcell k hk).2.2, ?_⟩
  have hL : ∀ k, k < vs.toList.length → g.lab (g.loc id).1 ((g.loc id).2 + off + k) = .obj id := fun k hk => (hcell k (by omega)).1
  have fr := Fr.write (g := g) (w := w) (b := (g.loc id).1) (o := (g.loc id).2 + off) (vs := vs.toList) (l := .obj id) (fun k hk => by rw [hL k hk]; trivial) (fun k hk => (hcell k (by omega)).2.1) (.inr trivial)
  refine ⟨_, fr, ?_⟩
  refine ⟨h.size, fun t' ht' => ?_, h.beyond, fun id' cells' hi => ?_, fun b' o'' hb => ?_⟩
  · have := h.slots t' ht'
    exact ⟨this.rel.mono fr, this.tail.write hL (by simp)⟩
  · simp only [Store.set] at hi
    split at hi
    · rename_i heq
      subst heq
      injection hi with hi
      subst hi
      obtain ⟨p1, p2⟩ := psplice_get cells off cs hle
      refine ⟨hob.lt, fun k v hk => ?_⟩
      rw [p2] at hk
      show (g.range _ _ _ _).lab (g.loc id').1 ((g.loc id').2 + k) = _ ∧ _
      by_cases hin : off ≤ k ∧ k < off + cs.length
      · rw [if_pos hin] at hk
        obtain ⟨q1, q2, q3⟩ := hcell (k - off) (by omega)
        rw [show (g.loc id').2 + off + (k - off) = (g.loc id').2 + k from by omega] at q1 q2 q3
        have hlt : k - off < vs.size := by omega
        have hcin := World.cell?_setCells_in (g.loc id').1 vs.toList ((g.loc id').2 + off) w (fun j hj => (hcell j (by omega)).2.1) (k - off) (by simpa using hlt)
        rw [show (g.loc id').2 + off + (k - off) = (g.loc id').2 + k from by omega] at hcin
        have hv0 : vs[k - off]? = some (vs.toList[k - off]'(by simpa using hlt)) := by rw [Array.getElem?_eq_getElem hlt]; simp
        refine ⟨range_in (o' := (g.loc id').2 + k) (by omega) (by omega) _, by rw [World.frozen?_setCells]; exact q3, _, hcin, ?_, ?_, ?_⟩
        · exact hcr.one (k - off) _ hv0
        · exact (hcr.rel (k - off) v _ hk hv0).mono fr
        · have := hroom (k - off) v _ hk hv0
          rw [show off + (k - off) = k by omega] at this
          exact this.write hL (by simp)
      · rw [if_neg hin] at hk
        obtain ⟨q1, q2, rv, q3, q4, q5, q6⟩ := hob.cell k v hk
        refine ⟨(range_out (o' := (g.loc id').2 + k) (fun hh => hin (by omega)) _).trans q1, by rw [World.frozen?_setCells]; exact q2, rv, ?_, q4, q5.mono fr, q6.write hL (by simp)⟩
        exact (set_out (b' := (g.loc id').1) (o' := (g.loc id').2 + k) (fun hin2 => hin (by omega))).trans q3
    · rename_i hne
      exact (h.objs id' cells' hi).write hL (by simpa using hne) (by simp) fr
  · rw [(setCells_size _ _ _ w).1] at hb
    have := h.new b' o'' hb
    simp only [Gh.range]
    split
    · rename_i hin
      have := lt_of_isSome (hcell 0 (by omega)).2.1
      omega
    · exact this

/-- A slot's room goes to an object's cell. -/
def Gh.give (g : Gh) (s id k : Nat) : Gh := { g with lab := fun b o => if g.lab b o = .slot s then .room id k else g.lab b o }
theorem Fr.give (g : Gh) (w : World) (s id k : Nat) : Fr g (g.give s id k) w w where
  os := rfl
  tape := rfl
  output := rfl
  size := Nat.le_refl _
  frozen b o hl := by simp [Gh.give, hl]
  foreign b o hl := by simp [Gh.give, hl]
  own b o hb hl := by
    simp only [Gh.give] at hl
    split at hl
    · rename_i hs; rw [hs]; trivial
    · exact hl
  kept _ _ _ _ := rfl
  mark _ _ _ := rfl
  some _ _ h := h
  block _ _ _ := rfl
  loc _ _ := rfl
  nxt := Nat.le_refl _
theorem St.give {n : Nat} {tmps : Array Value} (h : St n g w e S tmps) (s id k : Nat) (hs : s < n) : St n (g.give s id k) w (e.put s (e s).bare) S tmps where
  size := h.size
  slots t ht := by
    have htt := h.slots t ht
    simp only [Env.put]
    by_cases e1 : t = s
    · subst e1
      rw [if_pos rfl]
      exact ⟨htt.rel.bare.mono (Fr.give g w t id k), Tail.bare _ _ _ _ _⟩
    · rw [if_neg e1]
      have key : ∀ b o, g.lab b o = .slot t → (g.give s id k).lab b o = .slot t := by
        intro b o hl
        simp only [Gh.give, hl]
        rw [if_neg (by simpa using e1)]
      refine ⟨htt.rel.mono (Fr.give g w s id k), ?_⟩
      have htl := htt.tail
      unfold Tail at *
      split at htl
      · exact ⟨htl.1, fun k h1 h2 => ⟨key _ _ (htl.2 k h1 h2).1, (htl.2 k h1 h2).2⟩⟩
      · exact ⟨htl.1, fun k h1 h2 => ⟨key _ _ (htl.2 k h1 h2).1, (htl.2 k h1 h2).2⟩⟩
      · exact ⟨htl.1, fun k h1 => ⟨key _ _ (htl.2 k h1).1, (htl.2 k h1).2⟩⟩
      · trivial
  beyond t ht := by
    simp only [Env.put]
    rw [if_neg (by omega)]
    exact h.beyond t ht
  objs id' cells hi := by
    have hob := h.objs id' cells hi
    refine ⟨hob.lt, fun k' v hk => ?_⟩
    obtain ⟨h1, h2, rv, h3, h4, h5, h6⟩ := hob.cell k' v hk
    refine ⟨by simp only [Gh.give] at h1 ⊢; rw [if_neg (by rw [h1]; simp)]; exact h1, h2, rv, h3, h4, h5.mono (Fr.give g w s id k), h6.map fun b o ⟨c1, c2⟩ => ⟨by simp only [Gh.give]; rw [if_neg (by rw [c1]; simp)]; exact c1, c2⟩⟩
  new b o hb := by
    have := h.new b o hb
    simp [Gh.give, this]
theorem Tail.given {s id k : Nat} {v : PV} {rv : Value} (h : Tail g w s v rv) : RoomOk (g.give s id k) w id k v rv := by
  have key : ∀ b o, g.lab b o = .slot s → (g.give s id k).lab b o = .room id k := by
    intro b o hl
    simp [Gh.give, hl]
  unfold RoomOk
  split
  · simp only [Tail] at h
    exact ⟨h.1, fun k h1 h2 => ⟨key _ _ (h.2 k h1 h2).1, (h.2 k h1 h2).2⟩⟩
  · trivial

theorem vStore_sound {t : TypeId} {ad x : Operand} (ho : o.op = .store t ad x) (h : St X.n g w e S a.tmps) (hv : vStore C X t ad x o.dst K e S) (hR : Goes X g w a K R) : o.wp C.P a w R Q := by
  unfold vStore at hv
  split at hv
  · rename_i s ti cs hd hT hcs
    have hcr := pcells_rel hcs (opd_top (C := C) h t x 0).rel
    have hsz := C.sizeOf hT
    have fin : ∀ {w' : World}, (storeVar t (match a.eval (.tmp s) with | .pointer (some p) => p | _ => ⟨0, 0, none⟩) (a.eval x)).run C.P w = .ok () w' → (∃ p, a.eval (.tmp s) = .pointer (some p)) → R a w' → o.wp C.P a w R Q := by
      rintro w' hrun ⟨p, hp⟩ hr
      rw [hp] at hrun
      unfold Oper.wp
      simp only [execOp, ho, hp, Instr.storeAt, Instr.sureAddr, Sem.run_bind, Sem.run_pure, Result.andThen_ok, hrun, Oper.upon_skip, hd]
      exact hr
    split at hv
    · -- a new variable's first value
      rename_i n hs
      split at hv
      · rename_i hc
        have htop := h.top s
        rw [hs] at htop
        obtain ⟨p, hp⟩ : ∃ p, a.eval (.tmp s) = .pointer (some p) := by
          have := htop.rel
          generalize a.eval (.tmp s) = q at this
          cases this with
          | fresh p => exact ⟨p, rfl⟩
        have htail := htop.tail
        rw [hp] at htail
        simp only [Tail] at htail
        obtain ⟨⟨hspot, hmark⟩, hcells⟩ := htail
        obtain ⟨b, o', sp⟩ := p
        dsimp only at hspot hcells
        subst hspot
        have hvs : (a.eval x).cells.size = n := by rw [← hcr.len]; exact hc.1
        have hlen : (a.eval x).cells.toList.length = n := by simpa using hvs
        have hrun := storeVar_run (w := w) hsz (b := b) (o := o') (by rw [hvs]; exact hc.2.1.symm) (fun k hk => (hcells k (by omega)).2.1) (fun k hk => (hcells k (by omega)).2.2) (cr_list hcr)
        refine fin (by rw [hp]; exact hrun) ⟨_, hp⟩ ?_
        have hL : ∀ k, k < (a.eval x).cells.toList.length → g.lab b (o' + k) = .slot s := fun k hk => (hcells k (by omega)).1
        have fr : Fr g (g.range b o' (a.eval x).cells.toList.length .frozen) w (w.setCells b o' (a.eval x).cells.toList) := Fr.write (fun k hk => by rw [hL k hk]; trivial) (fun k hk => (hcells k (by omega)).2.1) (.inl rfl)
        refine hR _ _ _ _ a hv ?_ rfl fr
        have hrel : Rel (g.range b o' (a.eval x).cells.toList.length .frozen) (w.setCells b o' (a.eval x).cells.toList) (if X.mv s = true then .np cs else .ip cs 0) (.pointer (some ⟨b, o', none⟩)) := by
          have hin : ∀ (k : Nat) v, cs[k]? = some v → ∃ u, (a.eval x).cells[k]? = some u ∧ (w.setCells b o' (a.eval x).cells.toList).cell? ⟨b, o' + k, none⟩ = some u := by
            intro k v hk
            have hlt : k < (a.eval x).cells.size := by rw [← hcr.len]; exact (List.getElem?_eq_some_iff.1 hk).1
            refine ⟨(a.eval x).cells[k], Array.getElem?_eq_getElem hlt, ?_⟩
            have := World.cell?_setCells_in b (a.eval x).cells.toList o' w (fun j hj => (hcells j (by omega)).2.1) k (by simpa using hlt)
            rw [this]
            simp
          have hA : ∀ (k : Nat) v, cs[k]? = some v → (g.range b o' (a.eval x).cells.toList.length .frozen).lab b (o' + k) = .frozen ∧ (w.setCells b o' (a.eval x).cells.toList).cell? ⟨b, o' + k, none⟩ = some ((a.eval x).cells.getD k Go.undef) ∧ ((a.eval x).cells.getD k Go.undef).oneCell' = true := by
            intro k v hk
            obtain ⟨u, h1, h2⟩ := hin k v hk
            have hu : (a.eval x).cells.getD k Go.undef = u := by simp [Array.getD_eq_getD_getElem?, h1]
            rw [hu]
            have hlt : k < (a.eval x).cells.toList.length := by rw [hlen, ← hc.1]; exact (List.getElem?_eq_some_iff.1 hk).1
            exact ⟨range_frozen hlt _, h2, hcr.one k u h1⟩
          have hB : ∀ (k : Nat) v, cs[k]? = some v → Rel (g.range b o' (a.eval x).cells.toList.length .frozen) (w.setCells b o' (a.eval x).cells.toList) v ((a.eval x).cells.getD k Go.undef) := by
            intro k v hk
            obtain ⟨u, h1, h2⟩ := hin k v hk
            have hu : (a.eval x).cells.getD k Go.undef = u := by simp [Array.getD_eq_getD_getElem?, h1]
            rw [hu]
            exact (hcr.rel k v u hk h1).mono fr
          by_cases hm : X.mv s = true
          · rw [if_pos hm]
            exact .np _ (fr.noMark hmark) hA hB
          · rw [if_neg hm]
            have := @Rel.ip (g.range b o' (a.eval x).cells.toList.length .frozen) (w.setCells b o' (a.eval x).cells.toList) cs 0 b o' (fun k => (a.eval x).cells.getD k Go.undef) hA hB
            simpa using this
        refine ⟨h.size, fun t' ht' => ?_, fun t' ht' => ?_, fun id cells hi => ?_, fun b' o'' hb => ?_⟩
        · simp only [Env.put]
          by_cases e1 : t' = s
          · subst e1
            rw [if_pos rfl]
            have : a.tmps.getD t' Go.undef = .pointer (some ⟨b, o', none⟩) := hp
            rw [this]
            exact .ofRel hrel (by split <;> rfl)
          · rw [if_neg e1]
            have := h.slots t' ht'
            exact ⟨this.rel.mono fr, this.tail.write hL (by simpa using e1)⟩
        · have hsn : @LT.lt Nat _ s X.n := hc.2.2
          simp only [Env.put]
          rw [if_neg (by omega)]
          exact h.beyond t' ht'
        · exact (h.objs id cells hi).write hL (by simp) (by simp) fr
        · rw [(setCells_size b _ o' w).1] at hb
          have := h.new b' o'' hb
          simp only [Gh.range]
          split
          · rename_i hin
            have h0 : 0 < (a.eval x).cells.toList.length := by omega
            have := lt_of_isSome (hcells 0 (by omega)).2.1
            omega
          · exact this
      · exact hv.elim
    · -- an object
      rename_i id off hs
      split at hv
      · rename_i cells hS
        split at hv
        · rename_i hc
          have htop := h.top s
          rw [hs] at htop
          have hp : a.eval (.tmp s) = .pointer (some ⟨(g.loc id).1, (g.loc id).2 + off, none⟩) := by
            have := htop.rel
            generalize a.eval (.tmp s) = q at this
            cases this with
            | ref hn => rfl
          have hvs : (a.eval x).cells.size = cs.length := hcr.len.symm
          have plain : K e (S.set id (some (psplice cells off (cs.map PV.bare)))) → o.wp C.P a w R Q := by
            intro hv
            have hcrb : CR g w (cs.map PV.bare) (a.eval x).cells := ⟨by simpa using hcr.len, fun k v rv hk hrv => by
              simp only [List.getElem?_map, Option.map_eq_some_iff] at hk
              obtain ⟨u, hu, rfl⟩ := hk
              exact (hcr.rel k u rv hu hrv).bare, hcr.one⟩
            obtain ⟨c1, c2, g', fr, hst⟩ := obj_store h hS hcrb (fun k v rv hk _ => by
              simp only [List.getElem?_map, Option.map_eq_some_iff] at hk
              obtain ⟨u, hu, rfl⟩ := hk
              exact RoomOk.bare _ _ _ _ _ _) (by simpa using hc.2)
            have hrun := storeVar_run (w := w) hsz (b := (g.loc id).1) (o := (g.loc id).2 + off) (by rw [hvs]; exact hc.1) (fun k hk => c1 k (by simp only [List.length_map]; omega)) (fun k hk => c2 k (by simp only [List.length_map]; omega)) (cr_list hcr)
            exact fin (by rw [hp]; exact hrun) ⟨_, hp⟩ (hR _ _ _ _ a hv hst rfl fr)
          unfold vKeep at hv
          split at hv
          · rename_i s'
            split at hv
            · rename_i hcc
              obtain ⟨_, hsn, hc1⟩ := hcc
              have hx := h.top s'
              have hst1 := h.give s' id off hsn
              have hone : (a.eval (.tmp s')).oneCell' = true ∧ (a.eval (.tmp s')).cells = #[a.eval (.tmp s')] := by
                have hr := hx.rel
                generalize a.eval (.tmp s') = q at hr ⊢
                generalize e s' = p at hr hc1
                cases hr <;> simp [isSl] at hc1
                · exact ⟨rfl, rfl⟩
                · exact ⟨rfl, rfl⟩
              have hl1 : cs.length = 1 := by
                have := hcr.len
                rw [hone.2] at this
                simpa using this
              have hcr1 : CR (g.give s' id off) w [e s'] (a.eval (.tmp s')).cells := by
                rw [hone.2]
                refine ⟨rfl, fun k v rv hk hrv => ?_, fun k rv hrv => ?_⟩
                · rcases k with _ | k <;> simp at hk hrv
                  subst hk; subst hrv
                  exact hx.rel.mono (Fr.give g w s' id off)
                · rcases k with _ | k <;> simp at hrv
                  subst hrv
                  exact hone.1
              obtain ⟨c1, c2, g', fr, hst⟩ := obj_store hst1 hS hcr1 (fun k v rv hk hrv => by
                rw [hone.2] at hrv
                rcases k with _ | k <;> simp at hk hrv
                subst hk; subst hrv
                exact hx.tail.given) (by simp only [List.length_cons, List.length_nil]; omega)
              have hrun := storeVar_run (w := w) hsz (b := (g.loc id).1) (o := (g.loc id).2 + off) (by rw [hvs]; exact hc.1) (fun k hk => c1 k (by simp only [List.length_cons, List.length_nil]; omega)) (fun k hk => c2 k (by simp only [List.length_cons, List.length_nil]; omega)) (cr_list hcr)
              exact fin (by rw [hp]; exact hrun) ⟨_, hp⟩ (hR _ _ _ _ a hv hst rfl ((Fr.give g w s' id off).trans fr))
            · split at hv
              · have key : ∀ (zs cs : List PV) (vs : List Value), cs.length = vs.length → (∀ (k : Nat) v rv, cs[k]? = some v → vs[k]? = some rv → Rel g w v rv) → (openN zs cs).length = cs.length ∧ ∀ (k : Nat) v rv, (openN zs cs)[k]? = some v → vs[k]? = some rv → Rel g w v rv ∧ ∀ id k0, RoomOk g w id k0 v rv := by
                  intro zs
                  induction zs with
                  | nil =>
                    intro cs vs hl hr
                    refine ⟨by simp [openN], fun k v rv hk hrv => ?_⟩
                    simp only [openN, List.getElem?_map, Option.map_eq_some_iff] at hk
                    obtain ⟨u, hu, rfl⟩ := hk
                    exact ⟨(hr k u rv hu hrv).bare, fun _ _ => RoomOk.bare _ _ _ _ _ _⟩
                  | cons z zs ih =>
                    intro cs vs hl hr
                    cases cs with
                    | nil => exact ⟨by simp [openN], by simp [openN]⟩
                    | cons c cs =>
                      cases vs with
                      | nil => simp at hl
                      | cons v vs =>
                        obtain ⟨i1, i2⟩ := ih cs vs (by simpa using hl) (fun k u ru h1 h2 => hr (k + 1) u ru (by simpa using h1) (by simpa using h2))
                        refine ⟨by simp [openN, i1], fun k u ru hk hrv => ?_⟩
                        rcases k with _ | k
                        · simp [openN] at hk hrv
                          subst hk; subst hrv
                          have h0 := hr 0 c v rfl rfl
                          unfold openN1
                          split
                          · cases h0
                            exact ⟨.slnil _ _, fun _ _ => by simp [RoomOk]⟩
                          · exact ⟨h0.bare, fun _ _ => RoomOk.bare _ _ _ _ _ _⟩
                        · exact i2 k u ru (by simpa [openN] using hk) (by simpa using hrv)
                obtain ⟨kl, kr⟩ := key ti.zero cs (a.eval (.tmp s')).cells.toList (by simpa using hcr.len) (fun k v rv hk hrv => hcr.rel k v rv hk (by rwa [Array.getElem?_toList] at hrv))
                have hcrb : CR g w (openN ti.zero cs) (a.eval (.tmp s')).cells := ⟨by rw [kl]; exact hcr.len, fun k v rv hk hrv => (kr k v rv hk (by rwa [Array.getElem?_toList])).1, hcr.one⟩
                obtain ⟨c1, c2, g', fr, hst⟩ := obj_store h hS hcrb (fun k v rv hk hrv => (kr k v rv hk (by rwa [Array.getElem?_toList])).2 _ _) (by rw [kl]; exact hc.2)
                have hrun := storeVar_run (w := w) hsz (b := (g.loc id).1) (o := (g.loc id).2 + off) (by rw [hvs]; exact hc.1) (fun k hk => c1 k (by omega)) (fun k hk => c2 k (by omega)) (cr_list hcr)
                exact fin (by rw [hp]; exact hrun) ⟨_, hp⟩ (hR _ _ _ _ a hv hst rfl fr)
              · exact plain hv
          · exact plain hv
        · exact hv.elim
      · exact hv.elim
    · exact hv.elim
  · exact hv.elim
end
end Go.VL
