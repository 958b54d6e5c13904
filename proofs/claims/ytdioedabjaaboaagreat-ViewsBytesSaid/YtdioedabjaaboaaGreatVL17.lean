/- VL, part 10: new variables, stores. -/
import Derived.Test.YtdioedabjaaboaaGreatVL9
import Derived.Deep.DeepAppendWide
import Derived.MapKept
import Derived.Laws.MakeOwn
import Derived.Maps.RangeRun
set_option linter.unusedVariables false
set_option linter.unusedSimpArgs false
namespace Go.VL
open Go

section
variable {C : Ctx} {X : Fx} {o : Oper} {g : Gh} {w : World} {a : Act} {e : Env} {S : Store} {K : Env → Store → Prop} {R : Act → World → Prop} {Q : Exit → Act → World → Prop}

def Gh.range (g : Gh) (b0 o0 n : Nat) (l : Lab) : Gh := { g with lab := fun b o => if b = b0 ∧ o0 ≤ o ∧ o < o0 + n then l else g.lab b o }

theorem setCells_size (b : Nat) : ∀ (vs : List Value) (o : Nat) (w : World), (w.setCells b o vs).heap.size = w.heap.size ∧ (w.setCells b o vs).os = w.os ∧ (w.setCells b o vs).tape = w.tape ∧ (w.setCells b o vs).output = w.output ∧ ∀ k, k ≠ b → (w.setCells b o vs).heap[k]? = w.heap[k]?
 | [], o, w => ⟨rfl, rfl, rfl, rfl, fun _ _ => rfl⟩
 | v :: vs, o, w => by
  have ih := setCells_size b vs (o + 1) (w.setCell ⟨b, o, none⟩ v)
  simp only [World.setCells]
  refine ⟨ih.1.trans (by simp), ih.2.1.trans rfl, ih.2.2.1.trans rfl, ih.2.2.2.1.trans rfl, fun k hk => (ih.2.2.2.2 k hk).trans (RowKit.Below.heap_setCell w _ v k hk)⟩

theorem set_out {b o : Nat} {vs : List Value} {b' o' : Nat} (h : ¬ (b' = b ∧ o ≤ o' ∧ o' < o + vs.length)) : (w.setCells b o vs).cell? ⟨b', o', none⟩ = w.cell? ⟨b', o', none⟩ :=
 World.cell?_setCells_out b vs o w ⟨b', o', none⟩ (fun hb _ => by
  dsimp only at hb ⊢
  by_cases h1 : o ≤ o'
  ·right
   have : ¬ o' < o + vs.length := fun h2 => h ⟨hb, h1, h2⟩
   omega
  ·left; omega)

theorem Fr.write {b o : Nat} {vs : List Value} {l : Lab} (hown : ∀ k, k < vs.length → (g.lab b (o + k)).own) (hc : ∀ k, k < vs.length → (w.cell? ⟨b, o + k, none⟩).isSome = true) (hl : l = .frozen ∨ l.own) :
  Fr g (g.range b o vs.length l) w (w.setCells b o vs) := by
 obtain ⟨s1, s2, s3, s4, s5⟩ := setCells_size b vs o w
 have inr : ∀ b' o', (b' = b ∧ o ≤ o' ∧ o' < o + vs.length) → (g.lab b' o').own := by
  rintro b' o' ⟨rfl, h1, h2⟩
  have := hown (o' - o) (by omega)
  rwa [show o + (o' - o) = o' from by omega] at this
 refine ⟨s2, s3, s4, by omega, fun b' o' h => ?_, fun b' o' h => ?_, fun b' o' hb h => ?_, fun b' o' hb h => ?_, fun b' o' hb => World.frozen?_setCells b vs o w _, fun b' o' h => ?_, fun b' hb h => ?_, fun _ _ => rfl, Nat.le_refl _, fun _ _ => rfl⟩
 ·simp only [Gh.range]
  split
  ·rename_i hin; have := inr _ _ hin; rw [h] at this; exact this.elim
  ·exact h
 ·simp only [Gh.range]
  split
  ·rename_i hin; have := inr _ _ hin; rw [h] at this; exact this.elim
  ·exact h
 ·simp only [Gh.range] at h
  split at h
  ·rename_i hin; exact inr _ _ hin
  ·exact h
 ·exact set_out fun hin => h (inr _ _ hin)
 ·by_cases hin : b' = b ∧ o ≤ o' ∧ o' < o + vs.length
  ·obtain ⟨rfl, h1, h2⟩ := hin
   have := World.cell?_setCells_in b' vs o w hc (o' - o) (by omega)
   rw [show o + (o' - o) = o' from by omega] at this
   rw [this]; rfl
  ·rw [set_out hin]; exact h
 ·by_cases hb' : b' = b
  ·subst hb'
   cases vs with
   | nil => rfl
   | cons v vs => exact absurd (hown 0 (by simp)) (h _)
  ·exact s5 b' hb'

/-- What is labelled otherwise is not touched by a write. -/
theorem write_other {b o : Nat} {vs : List Value} {L l : Lab} (hL : ∀ k, k < vs.length → g.lab b (o + k) = L) {b' o' : Nat} (h : g.lab b' o' ≠ L) :
  (w.setCells b o vs).cell? ⟨b', o', none⟩ = w.cell? ⟨b', o', none⟩ ∧ (g.range b o vs.length l).lab b' o' = g.lab b' o' := by
 have hin : ¬ (b' = b ∧ o ≤ o' ∧ o' < o + vs.length) := by
  rintro ⟨rfl, h1, h2⟩
  have := hL (o' - o) (by omega)
  rw [show o + (o' - o) = o' from by omega] at this
  exact h this
 exact ⟨set_out hin, by simp only [Gh.range]; rw [if_neg hin]⟩

theorem write_heap {b o : Nat} {vs : List Value} {L : Lab} (hL : ∀ k, k < vs.length → g.lab b (o + k) = L) {t : Nat} (ht : Lab.slot t ≠ L) {b' : Nat} (h : ∀ o', g.lab b' o' = .slot t) : (w.setCells b o vs).heap[b']? = w.heap[b']? := by
 cases vs with
 | nil => rfl
 | cons v vs => exact (setCells_size b (v :: vs) o w).2.2.2.2 b' (fun e => ht (by rw [← hL 0 (by simp), ← e]; exact (h _).symm))
theorem write_heap' {b o : Nat} {vs : List Value} {L : Lab} (hL : ∀ k, k < vs.length → g.lab b (o + k) = L) {l : Lab} (ht : l ≠ L) {b' : Nat} (h : ∀ o', g.lab b' o' = l) : (w.setCells b o vs).heap[b']? = w.heap[b']? := by
 cases vs with
 | nil => rfl
 | cons v vs => exact (setCells_size b (v :: vs) o w).2.2.2.2 b' (fun e => ht (by rw [← hL 0 (by simp), ← e]; exact (h _).symm))
theorem Tail.write {b o : Nat} {vs : List Value} {L l : Lab} (hL : ∀ k, k < vs.length → g.lab b (o + k) = L) {t : Nat} (ht : Lab.slot t ≠ L) {v : PV} {rv : Value} (h : Tail g w t v rv) : Tail (g.range b o vs.length l) (w.setCells b o vs) t v rv := by
 have key : ∀ b' o', g.lab b' o' = .slot t ∧ (w.cell? ⟨b', o', none⟩).isSome = true ∧ w.frozen? ⟨b', o', none⟩ = false →
   (g.range b o vs.length l).lab b' o' = .slot t ∧ ((w.setCells b o vs).cell? ⟨b', o', none⟩).isSome = true ∧ (w.setCells b o vs).frozen? ⟨b', o', none⟩ = false := by
  rintro b' o' ⟨h1, h2, h3⟩
  obtain ⟨k1, k2⟩ := write_other (w := w) (l := l) hL (b' := b') (o' := o') (by rw [h1]; exact ht)
  exact ⟨k2.trans h1, by rw [k1]; exact h2, by rw [World.frozen?_setCells]; exact h3⟩
 unfold Tail at *
 split at h
 ·exact ⟨h.1, fun k h1 h2 => key _ _ (h.2 k h1 h2)⟩
 ·exact ⟨h.1, fun k h1 h2 => key _ _ (h.2 k h1 h2)⟩
 ·exact ⟨fun o' => (write_other (w := w) (l := l) hL (by rw [h.1 o']; exact ht)).2.trans (h.1 o'), (write_heap hL ht h.1).trans h.2⟩
 ·obtain ⟨h1, es, cl, h2, h3⟩ := h
  exact ⟨fun o' => (write_other (w := w) (l := l) hL (by rw [h1 o']; exact ht)).2.trans (h1 o'), es, cl, (write_heap hL ht h1).trans h2, h3⟩
 ·obtain ⟨h1, h2, h3, h4⟩ := h
  exact ⟨fun o' => (write_other (w := w) (l := l) hL (by rw [h1 o']; exact ht)).2.trans (h1 o'), h2, (write_heap hL ht h1).trans h3, h4⟩
 ·exact ⟨⟨h.1.1, by rw [(setCells_size b vs o w).1]; exact h.1.2.1, fun o' => by rw [World.frozen?_setCells]; exact h.1.2.2 o'⟩, fun k h1 => key _ _ (h.2 k h1)⟩
 ·trivial

theorem RoomOk.write {b o : Nat} {vs : List Value} {L l : Lab} (hL : ∀ k, k < vs.length → g.lab b (o + k) = L) {id k0 : Nat} (ht : Lab.room id k0 ≠ L) {v : PV} {rv : Value} (h : RoomOk g w id k0 v rv) : RoomOk (g.range b o vs.length l) (w.setCells b o vs) id k0 v rv :=
 h.map fun b' o' ⟨h1, h2, h3⟩ => by
  obtain ⟨k1, k2⟩ := write_other (w := w) (l := l) hL (b' := b') (o' := o') (by rw [h1]; exact ht)
  exact ⟨k2.trans h1, by rw [k1]; exact h2, by rw [World.frozen?_setCells]; exact h3⟩

theorem ObjOk.write {b o : Nat} {vs : List Value} {L l : Lab} (hL : ∀ k, k < vs.length → g.lab b (o + k) = L) {id : Nat} (hid : Lab.obj id ≠ L) (hir : ∀ k, Lab.room id k ≠ L) {cells : List PV} (fr : Fr g (g.range b o vs.length l) w (w.setCells b o vs)) (h : ObjOk g w id cells) :
  ObjOk (g.range b o vs.length l) (w.setCells b o vs) id cells where
 lt := h.lt
 mp hn := (h.mp hn).map rfl (fun b' o' hl => (write_other (w := w) (l := l) hL (by rw [hl]; exact hid)).2.trans hl) (fun b' hl _ _ hh => (write_heap' hL hid hl).trans hh) (fun _ _ hr => hr.mono fr)
 cell hn k v hk := by
  obtain ⟨h1, h2, rv, h3, h4, h5, h6⟩ := h.cell hn k v hk
  obtain ⟨k1, k2⟩ := write_other (w := w) (l := l) hL (b' := (g.loc id).1) (o' := (g.loc id).2 + k) (by rw [h1]; exact hid)
  exact ⟨k2.trans h1, by rw [World.frozen?_setCells]; exact h2, rv, k1.trans h3, h4, h5.mono fr, RoomOk.write hL (hir k) h6⟩

theorem cr_list {cs : List PV} {vs : Array Value} (h : CR g w cs vs) : ∀ v ∈ vs.toList, v.oneCell' = true := by
 intro v hv
 obtain ⟨k, hk⟩ := List.mem_iff_getElem?.1 hv
 exact h.one k v (by rwa [Array.getElem?_toList] at hk)

theorem storeVar_run {P : Program} {t : TypeId} {sz : Nat} (hsz : ∀ w : World, (sizeOf t).run P w = .ok sz w) {b o : Nat} {v : Value} (hv : v.cells.size = sz) (hc : ∀ k, k < sz → (w.cell? ⟨b, o + k, none⟩).isSome = true) (hf : ∀ k, k < sz → w.frozen? ⟨b, o + k, none⟩ = false)
  (h1 : ∀ u ∈ v.cells.toList, u.oneCell' = true) : (storeVar t ⟨b, o, none⟩ v).run P w = .ok () (w.setCells b o v.cells.toList) := by
 have hr := run_storeCells_cells (P := P) b o v.cells.toList 0 w (by simpa [hv] using hc) (by simpa [hv] using hf) h1
 simp only [Nat.add_zero] at hr
 unfold storeVar
 simp only [Sem.run_bind, hsz, Result.andThen_ok, hv, ne_eq, not_true_eq_false, if_false, Sem.run_pure]
 exact hr

theorem range_in {b o n o' : Nat} (h1 : o ≤ o') (h2 : o' < o + n) (l : Lab) : (g.range b o n l).lab b o' = l := if_pos ⟨rfl, h1, h2⟩
theorem range_out {b o n o' : Nat} (h : ¬ (o ≤ o' ∧ o' < o + n)) (l : Lab) : (g.range b o n l).lab b o' = g.lab b o' := if_neg (fun hh => h hh.2)
theorem range_frozen {b o n : Nat} {k : Nat} (h : k < n) (l : Lab) : (g.range b o n l).lab b (o + k) = l := range_in (by omega) (by omega) l

/-- A value is put into an object. -/
theorem obj_store {n : Nat} {tmps : Array Value} (h : St n g w e S tmps) {id off : Nat} {cells cs : List PV} {vs : Array Value} (hS : S id = some cells) (hkn : g.knd id = false) (hcr : CR g w cs vs) (hroom : ∀ (k : Nat) v rv, cs[k]? = some v → vs[k]? = some rv → RoomOk g w id (off + k) v rv) (hle : off + cs.length ≤ cells.length) :
  (∀ k, k < cs.length → (w.cell? ⟨(g.loc id).1, (g.loc id).2 + off + k, none⟩).isSome = true) ∧ (∀ k, k < cs.length → w.frozen? ⟨(g.loc id).1, (g.loc id).2 + off + k, none⟩ = false) ∧
  ∃ g', Fr g g' w (w.setCells (g.loc id).1 ((g.loc id).2 + off) vs.toList) ∧ St n g' (w.setCells (g.loc id).1 ((g.loc id).2 + off) vs.toList) e (S.set id (some (psplice cells off cs))) tmps := by
 have hob := h.objs id cells hS
 have hvs : vs.size = cs.length := hcr.len.symm
 have hlen : vs.toList.length = cs.length := by simpa using hvs
 have hcell : ∀ k, k < cs.length → g.lab (g.loc id).1 ((g.loc id).2 + off + k) = .obj id ∧ (w.cell? ⟨(g.loc id).1, (g.loc id).2 + off + k, none⟩).isSome = true ∧ w.frozen? ⟨(g.loc id).1, (g.loc id).2 + off + k, none⟩ = false := by
  intro k hk
  have hk2 : off + k < cells.length := by omega
  obtain ⟨h1, h2, rv, h3, _⟩ := hob.cell hkn (off + k) _ (List.getElem?_eq_getElem hk2)
  rw [Nat.add_assoc]
  exact ⟨h1, by rw [h3]; rfl, h2⟩
 refine ⟨fun k hk => (hcell k hk).2.1, fun k hk => (hcell k hk).2.2, ?_⟩
 have hL : ∀ k, k < vs.toList.length → g.lab (g.loc id).1 ((g.loc id).2 + off + k) = .obj id := fun k hk => (hcell k (by omega)).1
 have fr := Fr.write (g := g) (w := w) (b := (g.loc id).1) (o := (g.loc id).2 + off) (vs := vs.toList) (l := .obj id) (fun k hk => by rw [hL k hk]; trivial) (fun k hk => (hcell k (by omega)).2.1) (.inr trivial)
 refine ⟨_, fr, ?_⟩
 refine ⟨h.size, fun t' ht' => ?_, h.beyond, fun id' cells' hi => ?_, fun b' o'' hb => ?_⟩
 ·have := h.slots t' ht'
  exact ⟨this.rel.mono fr, this.tail.write hL (by simp)⟩
 ·simp only [Store.set] at hi
  split at hi
  ·rename_i heq
   subst heq
   injection hi with hi
   subst hi
   obtain ⟨p1, p2⟩ := psplice_get cells off cs hle
   refine ⟨hob.lt, fun _ k v hk => ?_, fun hn => by (rw [show (g.range (g.loc id').1 ((g.loc id').2 + off) vs.toList.length (.obj id')).knd id' = g.knd id' from rfl, hkn] at hn; cases hn)⟩
   rw [p2] at hk
   show (g.range _ _ _ _).lab (g.loc id').1 ((g.loc id').2 + k) = _ ∧ _
   by_cases hin : off ≤ k ∧ k < off + cs.length
   ·rw [if_pos hin] at hk
    obtain ⟨q1, q2, q3⟩ := hcell (k - off) (by omega)
    rw [show (g.loc id').2 + off + (k - off) = (g.loc id').2 + k from by omega] at q1 q2 q3
    have hlt : k - off < vs.size := by omega
    have hcin := World.cell?_setCells_in (g.loc id').1 vs.toList ((g.loc id').2 + off) w (fun j hj => (hcell j (by omega)).2.1) (k - off) (by simpa using hlt)
    rw [show (g.loc id').2 + off + (k - off) = (g.loc id').2 + k from by omega] at hcin
    have hv0 : vs[k - off]? = some (vs.toList[k - off]'(by simpa using hlt)) := by rw [Array.getElem?_eq_getElem hlt]; simp
    refine ⟨range_in (o' := (g.loc id').2 + k) (by omega) (by omega) _, by rw [World.frozen?_setCells]; exact q3, _, hcin, ?_, ?_, ?_⟩
    ·exact hcr.one (k - off) _ hv0
    ·exact (hcr.rel (k - off) v _ hk hv0).mono fr
    ·have := hroom (k - off) v _ hk hv0
     rw [show off + (k - off) = k by omega] at this
     exact this.write hL (by simp)
   ·rw [if_neg hin] at hk
    obtain ⟨q1, q2, rv, q3, q4, q5, q6⟩ := hob.cell hkn k v hk
    refine ⟨(range_out (o' := (g.loc id').2 + k) (fun hh => hin (by omega)) _).trans q1, by rw [World.frozen?_setCells]; exact q2, rv, ?_, q4, q5.mono fr, q6.write hL (by simp)⟩
    exact (set_out (b' := (g.loc id').1) (o' := (g.loc id').2 + k) (fun hin2 => hin (by omega))).trans q3
  ·rename_i hne
   exact (h.objs id' cells' hi).write hL (by simpa using hne) (by simp) fr
 ·rw [(setCells_size _ _ _ w).1] at hb
  have := h.new b' o'' hb
  simp only [Gh.range]
  split
  ·rename_i hin
   have := lt_of_isSome (hcell 0 (by omega)).2.1
   omega
  ·exact this

/-- A slot's room goes to an object's cell. -/
def Gh.give (g : Gh) (s id k : Nat) : Gh := { g with lab := fun b o => if g.lab b o = .slot s then .room id k else g.lab b o }
theorem Fr.give (g : Gh) (w : World) (s id k : Nat) : Fr g (g.give s id k) w w where
 os := rfl
 tape := rfl
 output := rfl
 size := Nat.le_refl _
 frozen b o hl := by simp [Gh.give, hl]
 foreign b o hl := by simp [Gh.give, hl]
 own b o hb hl := by
  simp only [Gh.give] at hl
  split at hl
  ·rename_i hs; rw [hs]; trivial
  ·exact hl
 kept _ _ _ _ := rfl
 mark _ _ _ := rfl
 some _ _ h := h
 block _ _ _ := rfl
 loc _ _ := rfl
 nxt := Nat.le_refl _
 knd _ _ := rfl
theorem St.give {n : Nat} {tmps : Array Value} (h : St n g w e S tmps) (s id k : Nat) (hs : s < n) : St n (g.give s id k) w (e.put s (e s).bare) S tmps where
 size := h.size
 slots t ht := by
  have htt := h.slots t ht
  simp only [Env.put]
  by_cases e1 : t = s
  ·subst e1
   rw [if_pos rfl]
   exact ⟨htt.rel.bare.mono (Fr.give g w t id k), Tail.bare _ _ _ _ _⟩
  ·rw [if_neg e1]
   have key : ∀ b o, g.lab b o = .slot t → (g.give s id k).lab b o = .slot t := by
    intro b o hl
    simp only [Gh.give, hl]
    rw [if_neg (by simpa using e1)]
   refine ⟨htt.rel.mono (Fr.give g w s id k), ?_⟩
   have htl := htt.tail
   unfold Tail at *
   split at htl
   ·exact ⟨htl.1, fun k h1 h2 => ⟨key _ _ (htl.2 k h1 h2).1, (htl.2 k h1 h2).2⟩⟩
   ·exact ⟨htl.1, fun k h1 h2 => ⟨key _ _ (htl.2 k h1 h2).1, (htl.2 k h1 h2).2⟩⟩
   ·exact ⟨fun o => key _ _ (htl.1 o), htl.2⟩
   ·exact ⟨fun o => key _ _ (htl.1 o), htl.2⟩
   ·exact ⟨fun o => key _ _ (htl.1 o), htl.2⟩
   ·exact ⟨htl.1, fun k h1 => ⟨key _ _ (htl.2 k h1).1, (htl.2 k h1).2⟩⟩
   ·trivial
 beyond t ht := by
  simp only [Env.put]
  rw [if_neg (by omega)]
  exact h.beyond t ht
 objs id' cells hi := by
  have hob := h.objs id' cells hi
  refine ⟨hob.lt, fun hn k' v hk => ?_, fun hn => (hob.mp hn).map rfl (fun b o hl => by simp only [Gh.give]; rw [if_neg (by rw [hl]; simp)]; exact hl) (fun _ _ _ _ hh => hh) (fun _ _ hr => hr.mono (Fr.give g w s id k))⟩
  obtain ⟨h1, h2, rv, h3, h4, h5, h6⟩ := hob.cell hn k' v hk
  refine ⟨by simp only [Gh.give] at h1 ⊢; rw [if_neg (by rw [h1]; simp)]; exact h1, h2, rv, h3, h4, h5.mono (Fr.give g w s id k), h6.map fun b o ⟨c1, c2⟩ => ⟨by simp only [Gh.give]; rw [if_neg (by rw [c1]; simp)]; exact c1, c2⟩⟩
 new b o hb := by
  have := h.new b o hb
  simp [Gh.give, this]
theorem Tail.given {s id k : Nat} {v : PV} {rv : Value} (h : Tail g w s v rv) : RoomOk (g.give s id k) w id k v rv := by
 have key : ∀ b o, g.lab b o = .slot s → (g.give s id k).lab b o = .room id k := by
  intro b o hl
  simp [Gh.give, hl]
 unfold RoomOk
 split
 ·simp only [Tail] at h
  exact ⟨h.1, fun k h1 h2 => ⟨key _ _ (h.2 k h1 h2).1, (h.2 k h1 h2).2⟩⟩
 ·trivial

theorem vStore_sound {t : TypeId} {ad x : Operand} (ho : o.op = .store t ad x) (h : St X.n g w e S a.tmps) (hv : vStore C X t ad x o.dst K e S) (hR : Goes X g w a K R) : o.wp C.P a w R Q := by
 unfold vStore at hv
 split at hv
 ·rename_i s ti cs hd hT hcs
  have hcr := pcells_rel hcs (opd_top (C := C) h t x 0).rel
  have hsz := C.sizeOf hT
  have fin : ∀ {w' : World}, (storeVar t (match a.eval (.tmp s) with | .pointer (some p) => p | _ => ⟨0, 0, none⟩) (a.eval x)).run C.P w = .ok () w' → (∃ p, a.eval (.tmp s) = .pointer (some p)) → R a w' → o.wp C.P a w R Q := by
   rintro w' hrun ⟨p, hp⟩ hr
   rw [hp] at hrun
   unfold Oper.wp
   simp only [execOp, ho, hp, Instr.storeAt, Instr.sureAddr, Sem.run_bind, Sem.run_pure, Result.andThen_ok, hrun, Oper.upon_skip, hd]
   exact hr
  split at hv
  ·-- a new variable's first value
   rename_i n hs
   split at hv
   ·rename_i hc
    have htop := h.top s
    rw [hs] at htop
    obtain ⟨p, hp⟩ : ∃ p, a.eval (.tmp s) = .pointer (some p) := by
     have := htop.rel
     generalize a.eval (.tmp s) = q at this
     cases this with
     | fresh p => exact ⟨p, rfl⟩
    have htail := htop.tail
    rw [hp] at htail
    simp only [Tail] at htail
    obtain ⟨⟨hspot, hmark⟩, hcells⟩ := htail
    obtain ⟨b, o', sp⟩ := p
    dsimp only at hspot hcells
    subst hspot
    have hvs : (a.eval x).cells.size = n := by rw [← hcr.len]; exact hc.1
    have hlen : (a.eval x).cells.toList.length = n := by simpa using hvs
    have hrun := storeVar_run (w := w) hsz (b := b) (o := o') (by rw [hvs]; exact hc.2.1.symm) (fun k hk => (hcells k (by omega)).2.1) (fun k hk => (hcells k (by omega)).2.2) (cr_list hcr)
    refine fin (by rw [hp]; exact hrun) ⟨_, hp⟩ ?_
    have hL : ∀ k, k < (a.eval x).cells.toList.length → g.lab b (o' + k) = .slot s := fun k hk => (hcells k (by omega)).1
    have fr : Fr g (g.range b o' (a.eval x).cells.toList.length .frozen) w (w.setCells b o' (a.eval x).cells.toList) := Fr.write (fun k hk => by rw [hL k hk]; trivial) (fun k hk => (hcells k (by omega)).2.1) (.inl rfl)
    refine hR _ _ _ _ a hv ?_ rfl fr
    have hrel : Rel (g.range b o' (a.eval x).cells.toList.length .frozen) (w.setCells b o' (a.eval x).cells.toList) (if X.mv s = true then .np cs else .ip cs 0) (.pointer (some ⟨b, o', none⟩)) := by
     have hin : ∀ (k : Nat) v, cs[k]? = some v → ∃ u, (a.eval x).cells[k]? = some u ∧ (w.setCells b o' (a.eval x).cells.toList).cell? ⟨b, o' + k, none⟩ = some u := by
      intro k v hk
      have hlt : k < (a.eval x).cells.size := by rw [← hcr.len]; exact (List.getElem?_eq_some_iff.1 hk).1
      refine ⟨(a.eval x).cells[k], Array.getElem?_eq_getElem hlt, ?_⟩
      have := World.cell?_setCells_in b (a.eval x).cells.toList o' w (fun j hj => (hcells j (by omega)).2.1) k (by simpa using hlt)
      rw [this]
      simp
     have hA : ∀ (k : Nat) v, cs[k]? = some v → (g.range b o' (a.eval x).cells.toList.length .frozen).lab b (o' + k) = .frozen ∧ (w.setCells b o' (a.eval x).cells.toList).cell? ⟨b, o' + k, none⟩ = some ((a.eval x).cells.getD k Go.undef) ∧ ((a.eval x).cells.getD k Go.undef).oneCell' = true := by
      intro k v hk
      obtain ⟨u, h1, h2⟩ := hin k v hk
      have hu : (a.eval x).cells.getD k Go.undef = u := by simp [Array.getD_eq_getD_getElem?, h1]
      rw [hu]
      have hlt : k < (a.eval x).cells.toList.length := by rw [hlen, ← hc.1]; exact (List.getElem?_eq_some_iff.1 hk).1
      exact ⟨range_frozen hlt _, h2, hcr.one k u h1⟩
     have hB : ∀ (k : Nat) v, cs[k]? = some v → Rel (g.range b o' (a.eval x).cells.toList.length .frozen) (w.setCells b o' (a.eval x).cells.toList) v ((a.eval x).cells.getD k Go.undef) := by
      intro k v hk
      obtain ⟨u, h1, h2⟩ := hin k v hk
      have hu : (a.eval x).cells.getD k Go.undef = u := by simp [Array.getD_eq_getD_getElem?, h1]
      rw [hu]
      exact (hcr.rel k v u hk h1).mono fr
     by_cases hm : X.mv s = true
     ·rw [if_pos hm]
      exact .np _ (fr.noMark hmark) hA hB
     ·rw [if_neg hm]
      have := @Rel.ip (g.range b o' (a.eval x).cells.toList.length .frozen) (w.setCells b o' (a.eval x).cells.toList) cs 0 b o' (fun k => (a.eval x).cells.getD k Go.undef) hA hB
      simpa using this
    refine ⟨h.size, fun t' ht' => ?_, fun t' ht' => ?_, fun id cells hi => ?_, fun b' o'' hb => ?_⟩
    ·simp only [Env.put]
     by_cases e1 : t' = s
     ·subst e1
      rw [if_pos rfl]
      have : a.tmps.getD t' Go.undef = .pointer (some ⟨b, o', none⟩) := hp
      rw [this]
      exact .ofRel hrel (by split <;> rfl)
     ·rw [if_neg e1]
      have := h.slots t' ht'
      exact ⟨this.rel.mono fr, this.tail.write hL (by simpa using e1)⟩
    ·have hsn : @LT.lt Nat _ s X.n := hc.2.2
     simp only [Env.put]
     rw [if_neg (by omega)]
     exact h.beyond t' ht'
    ·exact (h.objs id cells hi).write hL (by simp) (by simp) fr
    ·rw [(setCells_size b _ o' w).1] at hb
     have := h.new b' o'' hb
     simp only [Gh.range]
     split
     ·rename_i hin
      have h0 : 0 < (a.eval x).cells.toList.length := by omega
      have := lt_of_isSome (hcells 0 (by omega)).2.1
      omega
     ·exact this
   ·exact hv.elim
  ·-- an object
   rename_i id off hs
   split at hv
   ·rename_i cells hS
    split at hv
    ·rename_i hc
     have htop := h.top s
     rw [hs] at htop
     obtain ⟨hp, hkn⟩ : a.eval (.tmp s) = .pointer (some ⟨(g.loc id).1, (g.loc id).2 + off, none⟩) ∧ g.knd id = false := by
      have := htop.rel
      generalize a.eval (.tmp s) = q at this
      cases this with
      | ref hn hkn => exact ⟨rfl, hkn⟩
     have hvs : (a.eval x).cells.size = cs.length := hcr.len.symm
     have plain : K e (S.set id (some (psplice cells off (cs.map PV.bare)))) → o.wp C.P a w R Q := by
      intro hv
      have hcrb : CR g w (cs.map PV.bare) (a.eval x).cells := ⟨by simpa using hcr.len, fun k v rv hk hrv => by
       simp only [List.getElem?_map, Option.map_eq_some_iff] at hk
       obtain ⟨u, hu, rfl⟩ := hk
       exact (hcr.rel k u rv hu hrv).bare, hcr.one⟩
      obtain ⟨c1, c2, g', fr, hst⟩ := obj_store h hS hkn hcrb (fun k v rv hk _ => by
       simp only [List.getElem?_map, Option.map_eq_some_iff] at hk
       obtain ⟨u, hu, rfl⟩ := hk
       exact RoomOk.bare _ _ _ _ _ _) (by simpa using hc.2)
      have hrun := storeVar_run (w := w) hsz (b := (g.loc id).1) (o := (g.loc id).2 + off) (by rw [hvs]; exact hc.1) (fun k hk => c1 k (by simp only [List.length_map]; omega)) (fun k hk => c2 k (by simp only [List.length_map]; omega)) (cr_list hcr)
      exact fin (by rw [hp]; exact hrun) ⟨_, hp⟩ (hR _ _ _ _ a hv hst rfl fr)
     unfold vKeep at hv
     split at hv
     ·rename_i s'
      split at hv
      ·rename_i hcc
       obtain ⟨_, hsn, hc1⟩ := hcc
       have hx := h.top s'
       have hst1 := h.give s' id off hsn
       have hone : (a.eval (.tmp s')).oneCell' = true ∧ (a.eval (.tmp s')).cells = #[a.eval (.tmp s')] := by
        have hr := hx.rel
        generalize a.eval (.tmp s') = q at hr ⊢
        generalize e s' = p at hr hc1
        cases hr <;> simp [isSl] at hc1
        ·exact ⟨rfl, rfl⟩
        ·exact ⟨rfl, rfl⟩
       have hl1 : cs.length = 1 := by
        have := hcr.len
        rw [hone.2] at this
        simpa using this
       have hcr1 : CR (g.give s' id off) w [e s'] (a.eval (.tmp s')).cells := by
        rw [hone.2]
        refine ⟨rfl, fun k v rv hk hrv => ?_, fun k rv hrv => ?_⟩
        ·rcases k with _ | k <;> simp at hk hrv
         subst hk; subst hrv
         exact hx.rel.mono (Fr.give g w s' id off)
        ·rcases k with _ | k <;> simp at hrv
         subst hrv
         exact hone.1
       obtain ⟨c1, c2, g', fr, hst⟩ := obj_store hst1 hS hkn hcr1 (fun k v rv hk hrv => by
        rw [hone.2] at hrv
        rcases k with _ | k <;> simp at hk hrv
        subst hk; subst hrv
        exact hx.tail.given) (by simp only [List.length_cons, List.length_nil]; omega)
       have hrun := storeVar_run (w := w) hsz (b := (g.loc id).1) (o := (g.loc id).2 + off) (by rw [hvs]; exact hc.1) (fun k hk => c1 k (by simp only [List.length_cons, List.length_nil]; omega)) (fun k hk => c2 k (by simp only [List.length_cons, List.length_nil]; omega)) (cr_list hcr)
       exact fin (by rw [hp]; exact hrun) ⟨_, hp⟩ (hR _ _ _ _ a hv hst rfl ((Fr.give g w s' id off).trans fr))
      ·split at hv
       ·have key : ∀ (zs cs : List PV) (vs : List Value), cs.length = vs.length → (∀ (k : Nat) v rv, cs[k]? = some v → vs[k]? = some rv → Rel g w v rv) → (openN zs cs).length = cs.length ∧ ∀ (k : Nat) v rv, (openN zs cs)[k]? = some v → vs[k]? = some rv → Rel g w v rv ∧ ∀ id k0, RoomOk g w id k0 v rv := by
         intro zs
         induction zs with
         | nil =>
          intro cs vs hl hr
          refine ⟨by simp [openN], fun k v rv hk hrv => ?_⟩
          simp only [openN, List.getElem?_map, Option.map_eq_some_iff] at hk
          obtain ⟨u, hu, rfl⟩ := hk
          exact ⟨(hr k u rv hu hrv).bare, fun _ _ => RoomOk.bare _ _ _ _ _ _⟩
         | cons z zs ih =>
          intro cs vs hl hr
          cases cs with
          | nil => exact ⟨by simp [openN], by simp [openN]⟩
          | cons c cs =>
           cases vs with
           | nil => simp at hl
           | cons v vs =>
            obtain ⟨i1, i2⟩ := ih cs vs (by simpa using hl) (fun k u ru h1 h2 => hr (k + 1) u ru (by simpa using h1) (by simpa using h2))
            refine ⟨by simp [openN, i1], fun k u ru hk hrv => ?_⟩
            rcases k with _ | k
            ·simp [openN] at hk hrv
             subst hk; subst hrv
             have h0 := hr 0 c v rfl rfl
             unfold openN1
             split
             ·cases h0
              exact ⟨.slnil _ _, fun _ _ => by simp [RoomOk]⟩
             ·exact ⟨h0.bare, fun _ _ => RoomOk.bare _ _ _ _ _ _⟩
            ·exact i2 k u ru (by simpa [openN] using hk) (by simpa using hrv)
        obtain ⟨kl, kr⟩ := key ti.zero cs (a.eval (.tmp s')).cells.toList (by simpa using hcr.len) (fun k v rv hk hrv => hcr.rel k v rv hk (by rwa [Array.getElem?_toList] at hrv))
        have hcrb : CR g w (openN ti.zero cs) (a.eval (.tmp s')).cells := ⟨by rw [kl]; exact hcr.len, fun k v rv hk hrv => (kr k v rv hk (by rwa [Array.getElem?_toList])).1, hcr.one⟩
        obtain ⟨c1, c2, g', fr, hst⟩ := obj_store h hS hkn hcrb (fun k v rv hk hrv => (kr k v rv hk (by rwa [Array.getElem?_toList])).2 _ _) (by rw [kl]; exact hc.2)
        have hrun := storeVar_run (w := w) hsz (b := (g.loc id).1) (o := (g.loc id).2 + off) (by rw [hvs]; exact hc.1) (fun k hk => c1 k (by omega)) (fun k hk => c2 k (by omega)) (cr_list hcr)
        exact fin (by rw [hp]; exact hrun) ⟨_, hp⟩ (hR _ _ _ _ a hv hst rfl fr)
       ·exact plain hv
     ·exact plain hv
    ·exact hv.elim
   ·exact hv.elim
  ·exact hv.elim
 ·exact hv.elim
end
end Go.VL

/- VL, part 11: new variables; loads of objects; append. -/
namespace Go.VL
open Go

section
variable {C : Ctx} {X : Fx} {o : Oper} {g : Gh} {w : World} {a : Act} {e : Env} {S : Store} {K : Env → Store → Prop} {R : Act → World → Prop} {Q : Exit → Act → World → Prop}

def Gh.more (g : Gh) (b : Nat) : Gh := { lab := fun b' o => if b' = b then .obj g.nxt else g.lab b' o, loc := fun id => if id = g.nxt then (b, 0) else g.loc id, nxt := g.nxt + 1, knd := fun id => if id = g.nxt then false else g.knd id }

theorem Quiet.more (hn : ∀ b o, w.heap.size ≤ b → g.lab b o = .free) (ob : Obj) : Quiet g (g.more w.heap.size) w (w.alloc ob) := by
 have q := Quiet.alloc hn ob (fun _ => .obj g.nxt)
 exact ⟨⟨q.os, q.tape, q.output, q.size, q.frozen, q.foreign, q.own, q.kept, q.mark, q.some, q.block, fun id hi => by simp only [Gh.more]; rw [if_neg (by omega)], by simp [Gh.more], fun id hi => by simp only [Gh.more]; rw [if_neg (by omega)]⟩, q.same, q.new, q.whole⟩

theorem new_obj (h : St X.n g w e S a.tmps) {cs : List PV} {vs : Array Value} (hcr : CR g w cs vs) (hroom : ∀ (g : Gh) (w : World) (id k : Nat) v u, cs[k]? = some v → vs[k]? = some u → RoomOk g w id k v u) (t : TypeId) {d : Nat} (hd : d < X.n) :
  S g.nxt = none ∧ St X.n (g.more w.heap.size) (w.alloc (.cells vs t)) (e.put d (.ref g.nxt 0)) (S.set g.nxt (some cs)) (a.tmps.setIfInBounds d (.pointer (some ⟨w.heap.size, 0, none⟩))) := by
 have q := Quiet.more h.new (.cells vs t)
 have hS : S g.nxt = none := by
  cases hs : S g.nxt with
  | none => rfl
  | some cells => exact absurd (h.objs _ _ hs).lt (Nat.lt_irrefl _)
 have hl : (g.more w.heap.size).loc g.nxt = (w.heap.size, 0) := by simp [Gh.more]
 refine ⟨hS, ?_⟩
 have h1 := (h.quiet q).put (d := d) hd (v := .ref g.nxt 0) (rv := .pointer (some ⟨w.heap.size, 0, none⟩)) (.ofRel (by
  have := @Rel.ref (g.more w.heap.size) (w.alloc (.cells vs t)) g.nxt 0 (by simp [Gh.more]) (by simp [Gh.more])
  rw [hl] at this
  exact this) rfl)
 refine { h1 with objs := fun id cells hi => ?_ }
 simp only [Store.set] at hi
 split at hi
 ·rename_i heq
  subst heq
  injection hi with hi
  subst hi
  refine ⟨by simp [Gh.more], fun _ k v hk => ?_, fun hn => by simp [Gh.more] at hn⟩
  rw [hl]
  have hlt : k < vs.size := by rw [← hcr.len]; exact (List.getElem?_eq_some_iff.1 hk).1
  have he : vs[k]? = some vs[k] := Array.getElem?_eq_getElem hlt
  refine ⟨by simp [Gh.more], by simp, vs[k], ?_, hcr.one _ _ he, (hcr.rel k v _ hk he).mono q.toFr, hroom _ _ _ _ _ _ hk he⟩
  simp only [Nat.zero_add, World.cell?_alloc_new]
  exact he
 ·exact (h.objs id cells hi).quiet q

theorem vAlloc_sound {t : TypeId} (ho : o.op = .alloc t) (h : St X.n g w e S a.tmps) (hv : vAlloc C X t o.dst K e S) (hR : Goes X g w a K R) : o.wp C.P a w R Q := by
 unfold vAlloc at hv
 split at hv
 ·rename_i d ti hd hT
  split at hv
  ·rename_i hdn
   obtain ⟨i, z, hi, hz, hcr⟩ := zero_cr (C := C) (g := g) (w := w) hT
   have hsz : z.cells.size = ti.size := by
    obtain ⟨_, _, _, _, _, _, _, _, hl, _⟩ := (C.hT _ _ hT).info
    rw [← hcr.len, hl]
   have hrun : (execOp a.eval o).run C.P w = .ok (.value (.pointer (some ⟨w.heap.size, 0, none⟩))) (w.alloc (.cells z.cells t)) := by
    simp only [execOp, ho, Instr.alloc, zeroValue, typeInfo, program, Sem.run_bind, Sem.run, hi, hz, Sem.run_pure, Result.andThen_ok, newVar, newRow, run_newObj_alloc]
   split at hv
   ·obtain ⟨i2, z2, hi2, hz2, hcr2, hro2⟩ := zero_opn (C := C) hT
    rw [hi] at hi2
    injection hi2 with hi2
    subst hi2
    rw [hz] at hz2
    injection hz2 with hz2
    subst hz2
    obtain ⟨hS, hst⟩ := new_obj h (hcr2 g w) hro2 t hdn
    unfold Oper.wp
    rw [hrun, Oper.upon_value, hd]
    exact hR _ _ _ _ _ (hv g.nxt hS) (by rw [put_tmps]; exact hst) (put_defers _ _ _) (Quiet.more h.new _).toFr
   ·have q := Quiet.alloc h.new (.cells z.cells t) (fun _ => .slot d)
    refine vPut_sound hd hdn hv h hrun q ⟨.fresh _, ⟨rfl, by simp, fun o => by simp⟩, fun k hk => ⟨by simp [Gh.mark], ?_, by simp⟩⟩ hR
    simp only [Nat.zero_add, World.cell?_alloc_new]
    rw [Array.getElem?_eq_getElem (by omega)]
    rfl
  ·exact hv.elim
 ·exact hv.elim

theorem vBox_sound {t : TypeId} {x : Operand} (ho : o.op = .box t x) (h : St X.n g w e S a.tmps) (hv : vBox C X o x o.dst K e S) (hR : Goes X g w a K R) : o.wp C.P a w R Q := by
 unfold vBox at hv
 split at hv
 ·rename_i d hd
  split at hv
  ·split at hv
   ·rename_i cs hcs
    split at hv
    ·rename_i hdn
     have hcr := pcells_rel hcs (h.ev x)
     have hcrb : CR g w (cs.map PV.bare) (a.eval x).cells := ⟨by simpa using hcr.len, fun k v rv hk hrv => by
      simp only [List.getElem?_map, Option.map_eq_some_iff] at hk
      obtain ⟨u, hu, rfl⟩ := hk
      exact (hcr.rel k u rv hu hrv).bare, hcr.one⟩
     obtain ⟨hS, hst⟩ := new_obj h hcrb (fun g w id k v u hk _ => by
      simp only [List.getElem?_map, Option.map_eq_some_iff] at hk
      obtain ⟨u', hu, rfl⟩ := hk
      exact RoomOk.bare _ _ _ _ _ _) t hdn
     have hrun : (execOp a.eval o).run C.P w = .ok (.value (.pointer (some ⟨w.heap.size, 0, none⟩))) (w.alloc (.cells (a.eval x).cells t)) := by
      simp only [execOp, ho, Instr.box, newVar, newRow, Sem.run_bind, run_newObj_alloc, Result.andThen_ok, Sem.run_pure]
     unfold Oper.wp
     rw [hrun, Oper.upon_value, hd]
     exact hR _ _ _ _ _ (hv g.nxt hS) (by rw [put_tmps]; exact hst) (put_defers _ _ _) (Quiet.more h.new _).toFr
    ·exact hv.elim
   ·exact hv.elim
  ·split at hv
   ·split at hv
    ·rename_i cs hcs
     split at hv
     ·rename_i hdn
      have hcr := pcells_rel hcs (h.ev x)
      have q := (rel_alloc h.new hcr t).1
      have hrel := rel_box h.new hcr t
      have hrun : (execOp a.eval o).run C.P w = .ok (.value (.pointer (some ⟨w.heap.size, 0, none⟩))) (w.alloc (.cells (a.eval x).cells t)) := by
       simp only [execOp, ho, Instr.box, newVar, newRow, Sem.run_bind, run_newObj_alloc, Result.andThen_ok, Sem.run_pure]
      refine vPut_sound hd hdn hv h hrun q (.ofRel ?_ rfl) hR
      cases hrel with
      | @ip _ _ _ o2 f h1 h2 => exact .np f ⟨by simp, fun o => by simp⟩ h1 h2
     ·exact hv.elim
    ·exact hv.elim
   ·exact vPop_sound h (by rw [hd]; exact hv) hR
 ·exact hv.elim

theorem pload_obj {ti : TI} {t : TypeId} (ht : C.T t = some ti) {id off : Nat} {cells : List PV} {v : PV} {rv : Value} (hob : ObjOk g w id cells) (hl : pload ti cells off = some v) (hr : Rel g w (.ref id off) rv) :
  ∃ ad x, rv = .pointer (some ad) ∧ (loadVar t ad).run C.P w = .ok x w ∧ Rel g w v x ∧ v.bare = v := by
 cases hr with
 | ref hn hkn =>
  refine ⟨⟨(g.loc id).1, (g.loc id).2 + off, none⟩, ?_⟩
  let f : Nat → Value := fun k => (w.cell? ⟨(g.loc id).1, (g.loc id).2 + k, none⟩).getD Go.undef
  have hf : ∀ (k : Nat) v, cells[k]? = some v → w.cell? ⟨(g.loc id).1, (g.loc id).2 + k, none⟩ = some (f k) ∧ (f k).oneCell' = true ∧ Rel g w v (f k) := by
   intro k v hk
   obtain ⟨_, _, u, h3, h4, h5, _⟩ := hob.cell hkn k v hk
   have : f k = u := by show (w.cell? _).getD _ = u; rw [h3]; rfl
   rw [this]
   exact ⟨h3, h4, h5⟩
  unfold pload at hl
  unfold loadVar
  split at hl
  ·rename_i hag
   split at hl
   ·rename_i hle
    cases hl
    have hrun := run_loadCells (P := C.P) w ⟨(g.loc id).1, (g.loc id).2 + off, none⟩ ti.size (fun j => f (off + j)) (fun j hj => by
     have hk : cells[off + j]? = some cells[off + j] := List.getElem?_eq_getElem (by omega)
     have := (hf _ _ hk).1
     rw [Addr.add_lit, Nat.add_assoc]
     exact this)
    refine ⟨.agg ((List.range ti.size).map fun j => f (off + j)).toArray, rfl, ?_, ?_, rfl⟩
    ·simp only [Sem.run_bind, C.isAgg ht, Result.andThen_ok, hag, if_true, C.sizeOf ht, hrun]
     rfl
    ·refine .agg (by simp; omega) (fun k rv hk => ?_) (fun k v rv hv hk => ?_)
     ·obtain ⟨hlt, rfl⟩ := range_map hk
      exact (hf (off + k) _ (List.getElem?_eq_getElem (by omega))).2.1
     ·obtain ⟨hlt, rfl⟩ := range_map hk
      rw [List.getElem?_take, if_pos hlt, List.getElem?_drop] at hv
      exact (hf _ _ hv).2.2
   ·cases hl
  ·rename_i hag
   cases hc : cells[off]? with
   | none => rw [hc] at hl; cases hl
   | some u =>
    rw [hc] at hl
    simp only [Option.map_some, Option.some.injEq] at hl
    subst hl
    have := (hf _ _ hc).1
    refine ⟨f off, rfl, ?_, (hf _ _ hc).2.2.bare, PV.bare_bare u⟩
    have hag' : ti.k.agg = false := by simpa using hag
    simp only [Sem.run_bind, C.isAgg ht, Result.andThen_ok, hag', Bool.false_eq_true, if_false]
    simp [load, Sem.run, this]

/-- An object's cell gives its room to a slot. -/
def Gh.take (g : Gh) (id k d : Nat) : Gh := { g with lab := fun b o => if g.lab b o = .room id k then .slot d else g.lab b o }
theorem Fr.take (g : Gh) (w : World) (id k d : Nat) : Fr g (g.take id k d) w w where
 os := rfl
 tape := rfl
 output := rfl
 size := Nat.le_refl _
 frozen b o hl := by simp [Gh.take, hl]
 foreign b o hl := by simp [Gh.take, hl]
 own b o hb hl := by
  simp only [Gh.take] at hl
  split at hl
  ·rename_i hs; rw [hs]; trivial
  ·exact hl
 kept _ _ _ _ := rfl
 mark _ _ _ := rfl
 some _ _ h := h
 block _ _ _ := rfl
 loc _ _ := rfl
 nxt := Nat.le_refl _
 knd _ _ := rfl
theorem St.take {n : Nat} {tmps : Array Value} (h : St n g w e S tmps) {id k d : Nat} {cells : List PV} {v : PV} {rv : Value} (hS : S id = some cells) (hkn : g.knd id = false) (hc : cells[k]? = some v) (hd : d < n) (hsl : isSl v = true) (h3 : w.cell? ⟨(g.loc id).1, (g.loc id).2 + k, none⟩ = some rv) :
  St n (g.take id k d) w (e.put d v) (S.set id (some (psplice cells k [v.bare]))) (tmps.setIfInBounds d rv) where
 size := by simp [h.size]
 slots t ht := by
  by_cases e1 : t = d
  ·subst e1
   rw [getD_set_self _ _ _ _ (by rw [h.size]; exact ht)]
   obtain ⟨_, _, u, q3, q4, q5, q6⟩ := (h.objs _ _ hS).cell hkn k v hc
   rw [h3] at q3
   injection q3 with q3
   subst q3
   simp only [Env.put, if_true]
   refine ⟨q5.mono (Fr.take g w id k t), ?_⟩
   have key : ∀ b o, g.lab b o = .room id k → (g.take id k t).lab b o = .slot t := by
    intro b o hl
    simp [Gh.take, hl]
   cases v with
   | sl f sz rows =>
    cases f with
    | no => simp [Tail]
    | tail =>
     cases rv with
     | slice a l cap =>
      cases a with
      | none => simp [Tail]
      | some a =>
       simp only [RoomOk] at q6
       simp only [Tail]
       exact ⟨q6.1, fun k h1 h2 => ⟨key _ _ (q6.2 k h1 h2).1, (q6.2 k h1 h2).2⟩⟩
     | _ => simp [Tail]
   | _ => simp [isSl] at hsl
  ·rw [getD_set_ne _ _ _ _ _ e1]
   simp only [Env.put, if_neg e1]
   have htt := h.slots t ht
   have key : ∀ b o, g.lab b o = .slot t → (g.take id k d).lab b o = .slot t := by
    intro b o hl
    simp only [Gh.take, hl]
    rw [if_neg (by simp)]
   refine ⟨htt.rel.mono (Fr.take g w id k d), ?_⟩
   have htl := htt.tail
   unfold Tail at *
   split at htl
   ·exact ⟨htl.1, fun k h1 h2 => ⟨key _ _ (htl.2 k h1 h2).1, (htl.2 k h1 h2).2⟩⟩
   ·exact ⟨htl.1, fun k h1 h2 => ⟨key _ _ (htl.2 k h1 h2).1, (htl.2 k h1 h2).2⟩⟩
   ·exact ⟨fun o => key _ _ (htl.1 o), htl.2⟩
   ·exact ⟨fun o => key _ _ (htl.1 o), htl.2⟩
   ·exact ⟨fun o => key _ _ (htl.1 o), htl.2⟩
   ·exact ⟨htl.1, fun k h1 => ⟨key _ _ (htl.2 k h1).1, (htl.2 k h1).2⟩⟩
   ·trivial
 beyond t ht := by
  simp only [Env.put]
  rw [if_neg (by omega)]
  exact h.beyond t ht
 objs id' cells' hi := by
  have fr := Fr.take g w id k d
  have move : ∀ {k' : Nat} {u : PV} {ru : Value}, (id' ≠ id ∨ k' ≠ k) → RoomOk g w id' k' u ru → RoomOk (g.take id k d) w id' k' u ru := by
   intro k' u ru hne hro
   refine hro.map fun b o ⟨c1, c2⟩ => ⟨?_, c2⟩
   simp only [Gh.take]
   rw [if_neg (by rw [c1]; simp; rcases hne with e1 | e1 <;> simp [e1]), c1]
  have lab : ∀ {b o i : Nat}, g.lab b o = .obj i → (g.take id k d).lab b o = .obj i := by
   intro b o i hl
   simp only [Gh.take, hl]
   rw [if_neg (by simp)]
  simp only [Store.set] at hi
  split at hi
  ·rename_i heq
   subst heq
   injection hi with hi
   subst hi
   have hob := h.objs id' cells hS
   have hlt : k < cells.length := (List.getElem?_eq_some_iff.1 hc).1
   obtain ⟨p1, p2⟩ := psplice_get cells k [v.bare] (by simp only [List.length_cons, List.length_nil]; omega)
   refine ⟨hob.lt, fun _ k' u hk => ?_, fun hn => by (rw [show (g.take id' k d).knd id' = g.knd id' from rfl, hkn] at hn; cases hn)⟩
   rw [p2] at hk
   by_cases hin : k ≤ k' ∧ k' < k + [v.bare].length
   ·rw [if_pos hin] at hk
    have : k' = k := by simp at hin; omega
    subst this
    simp at hk
    subst hk
    obtain ⟨q1, q2, ru, q3, q4, q5, q6⟩ := hob.cell hkn k' v hc
    exact ⟨lab q1, q2, ru, q3, q4, q5.bare.mono fr, RoomOk.bare _ _ _ _ _ _⟩
   ·rw [if_neg hin] at hk
    obtain ⟨q1, q2, ru, q3, q4, q5, q6⟩ := hob.cell hkn k' u hk
    exact ⟨lab q1, q2, ru, q3, q4, q5.mono fr, move (.inr (by simp at hin; omega)) q6⟩
  ·rename_i hne
   have hob := h.objs id' cells' hi
   refine ⟨hob.lt, fun hn k' u hk => ?_, fun hn => (hob.mp hn).map rfl (fun _ _ hl => lab hl) (fun _ _ _ _ hh => hh) (fun _ _ hr => hr.mono fr)⟩
   obtain ⟨q1, q2, ru, q3, q4, q5, q6⟩ := hob.cell hn k' u hk
   exact ⟨lab q1, q2, ru, q3, q4, q5.mono fr, move (.inl (by simpa using hne)) q6⟩
 new b o hb := by
  have := h.new b o hb
  simp [Gh.take, this]

theorem vLoad_sound {t : TypeId} {x : Operand} (ho : o.op = .load t x) (h : St X.n g w e S a.tmps) (hv : vLoad C X o t x K e S) (hR : Goes X g w a K R) : o.wp C.P a w R Q := by
 unfold vLoad at hv
 split at hv
 ·rename_i id off ti hx hT
  split at hv
  ·rename_i cells hS
   unfold vTake at hv
   split at hv
   ·rename_i d hd
    have hr := h.ev x
    rw [hx] at hr
    split at hv
    ·split at hv
     ·rename_i _ _ v hag hc
      split at hv
      ·rename_i hdn
       have hob := h.objs _ _ hS
       have hkn := hr.refKnd
       obtain ⟨h1, h2, rv, h3, h4, h5, h6⟩ := hob.cell hkn off v hc
       generalize hq : a.eval x = q at hr
       cases hr with
       | ref hn =>
        have hag' : ti.k.agg = false := hag
        have hrun : (execOp a.eval o).run C.P w = .ok (.value rv) w := by
         simp only [execOp, ho, hq, Instr.loadAt, Instr.sureAddr, Sem.run_bind, Sem.run_pure, Result.andThen_ok, loadVar, C.isAgg hT, hag', Bool.false_eq_true, if_false]
         simp [load, Sem.run, h3]
        unfold Oper.wp
        rw [hrun, Oper.upon_value, hd]
        exact hR _ _ _ w _ hv (by rw [put_tmps]; exact h.take hS hkn hc hdn.1 hdn.2 h3) (put_defers _ _ _) (Fr.take g w id off d)
      ·exact hv.elim
     ·exact hv.elim
    ·unfold vPut at hv
     split at hv
     ·rename_i d v hd2 hp
      injection hd2 with hd2
      subst hd2
      split at hv
      ·rename_i hdn
       obtain ⟨ad, y, h1, h2, h3, h4⟩ := pload_obj hT (h.objs _ _ hS).bareCells hp hr
       refine vPut_sound hd hdn hv h (rv := y) ?_ (Quiet.refl h.new) (.ofRel h3 h4) hR
       simp only [execOp, ho, h1, Instr.loadAt, Instr.sureAddr, Sem.run_bind, Sem.run_pure, Result.andThen_ok, h2]
      ·exact hv.elim
     ·exact hv.elim
   ·exact hv.elim
  ·exact hv.elim
 ·exact vPop_sound h hv hR

/-! ### append -/
/-- A slice's rows as one list of cells. -/
theorem sl_cells {f : Fl} {sz : Nat} {rows : List (List PV)} {b o' cap : Nat} {sp : Option Nat} (hsz : 0 < sz) (h : Rel g w (.sl f sz rows) (.slice (some ⟨b, o', sp⟩) rows.length cap)) :
  ∃ vs : List Value, vs.length = rows.length * sz ∧ (∀ (j : Nat) u, vs[j]? = some u → w.cell? (Addr.add ⟨b, o', sp⟩ j) = some u ∧ u.oneCell' = true) ∧
   (∀ (j : Nat) c, rows[j]? = some c → c.length = sz) ∧ ∀ (j : Nat) (c : List PV) (k : Nat) v, rows[j]? = some c → c[k]? = some v → ∃ u, vs[j * sz + k]? = some u ∧ Rel g w v u := by
 cases h with
 | sl fv hc hl h1 h2 hs =>
  rcases hs with rfl | rfl
  ·exact ⟨[], by simp, by simp, by simp, by simp⟩
  have hrow : ∀ i, i < rows.length * sz → ∃ c v, rows[i / sz]? = some c ∧ c[i % sz]? = some v := by
   intro i hi
   have hlt : i / sz < rows.length := (Nat.div_lt_iff_lt_mul hsz).2 hi
   have he : rows[i / sz]? = some rows[i / sz] := List.getElem?_eq_getElem hlt
   have hm : i % sz < (rows[i / sz]).length := by rw [hl _ _ he]; exact Nat.mod_lt _ hsz
   exact ⟨_, _, he, List.getElem?_eq_getElem hm⟩
  refine ⟨(List.range (rows.length * sz)).map fun i => fv (i / sz) (i % sz), by simp, fun j u hj => ?_, hl, fun j c k v hj hk => ?_⟩
  ·simp only [List.getElem?_map, Option.map_eq_some_iff] at hj
   obtain ⟨i, hi, rfl⟩ := hj
   obtain ⟨hlt, he⟩ := List.getElem?_eq_some_iff.1 hi
   simp at hlt he
   subst he
   obtain ⟨c, v, e1, e2⟩ := hrow j hlt
   have := h1 _ _ _ _ e1 e2
   rw [Nat.div_add_mod' j sz] at this
   rw [Addr.add_lit]
   exact ⟨this.2.1, this.2.2⟩
  ·have hks : k < sz := by rw [← hl _ _ hj]; exact (List.getElem?_eq_some_iff.1 hk).1
   have hjl : j < rows.length := (List.getElem?_eq_some_iff.1 hj).1
   have hlt : j * sz + k < rows.length * sz := by
    have : (j + 1) * sz ≤ rows.length * sz := Nat.mul_le_mul_right _ hjl
    rw [Nat.add_mul] at this
    omega
   refine ⟨fv j k, ?_, h2 _ _ _ _ hj hk⟩
   simp only [List.getElem?_map]
   rw [List.getElem?_range hlt]
   have d1 : (j * sz + k) / sz = j := by rw [Nat.mul_comm, Nat.mul_add_div hsz, Nat.div_eq_of_lt hks, Nat.add_zero]
   have d2 : (j * sz + k) % sz = k := by rw [Nat.mul_comm, Nat.mul_add_mod, Nat.mod_eq_of_lt hks]
   simp [d1, d2]

structure SrcOf (C : Ctx) (g : Gh) (w : World) (sz : Nat) (tx : TypeId) (x : Value) (more : List (List PV)) (news : List Value) : Prop where
 src : Src C.P sz tx x more.length news w
 len : ∀ (j : Nat) c, more[j]? = some c → c.length = sz
 rel : ∀ (j : Nat) (c : List PV) (k : Nat) v, more[j]? = some c → c[k]? = some v → ∃ u, news[j * sz + k]? = some u ∧ Rel g w v u

theorem src_of_sl {f : Fl} {sz : Nat} {rows : List (List PV)} {tx el : TypeId} {x : Value} (hsz : 0 < sz) (hu : C.P.underlying tx = some (.slice el)) (h : Rel g w (.sl f sz rows) x) : ∃ news, SrcOf C g w sz tx x rows news := by
 rcases sl_parts h with ⟨rfl, rfl⟩ | ⟨b, o', sp, cap, rfl, hcap, hsp⟩
 ·exact ⟨[], Src.ofNil w hu 0, by simp, by simp⟩
 ·obtain ⟨vs, h1, h2, h3, h4⟩ := sl_cells hsz h
  exact ⟨vs, Src.ofSlice w hu _ _ _ vs h1 (fun j u hj => (h2 j u hj).1) (fun u hu => by obtain ⟨j, hj⟩ := List.mem_iff_getElem?.1 hu; exact (h2 j u hj).2), h3, h4⟩

theorem src_of_str {s : ByteArray} {tx : TypeId} (hu : C.P.underlying tx = some .string) : SrcOf C g w 1 tx (.string s) (s.data.toList.map fun c => [.int .u8 (c.toNat : Int)]) (byteCells s) := by
 have hlen : (s.data.toList.map fun c => ([.int .u8 (c.toNat : Int)] : List PV)).length = s.size := by simp
 refine ⟨by rw [hlen]; exact Src.ofString w hu s, fun j c hj => ?_, fun j c k v hj hk => ?_⟩
 ·simp only [List.getElem?_map, Option.map_eq_some_iff] at hj
  obtain ⟨u, _, rfl⟩ := hj
  rfl
 ·simp only [List.getElem?_map, Option.map_eq_some_iff] at hj
  obtain ⟨u, hu, rfl⟩ := hj
  rcases k with _ | k <;> simp at hk
  subst hk
  refine ⟨.int .u8 u.toNat, ?_, .int _ _⟩
  simp only [byteCells, List.getElem?_map, Nat.mul_one, Nat.add_zero, hu, Option.map_some]

/-- Rows out of cells. -/
theorem Rel.rows {f : Fl} {sz : Nat} {rows : List (List PV)} {b o' cap : Nat} (hc : rows.length ≤ cap) (hl : ∀ (j : Nat) (c : List PV), rows[j]? = some c → c.length = sz)
  (h : ∀ (j : Nat) (c : List PV) (k : Nat) (v : PV), rows[j]? = some c → c[k]? = some v → g.lab b (o' + (j * sz + k)) = .frozen ∧ ∃ u, w.cell? ⟨b, o' + (j * sz + k), none⟩ = some u ∧ u.oneCell' = true ∧ Rel g w v u) :
  Rel g w (.sl f sz rows) (.slice (some ⟨b, o', none⟩) rows.length cap) := by
 have key : ∀ (j : Nat) (c : List PV) (k : Nat) (v : PV), rows[j]? = some c → c[k]? = some v → w.cell? ⟨b, o' + (j * sz + k), none⟩ = some ((w.cell? ⟨b, o' + (j * sz + k), none⟩).getD Go.undef) ∧ ((w.cell? ⟨b, o' + (j * sz + k), none⟩).getD Go.undef).oneCell' = true ∧ Rel g w v ((w.cell? ⟨b, o' + (j * sz + k), none⟩).getD Go.undef) := by
  intro j c k v hj hk
  obtain ⟨_, u, h2, h3, h4⟩ := h j c k v hj hk
  rw [h2]
  exact ⟨rfl, h3, h4⟩
 exact .sl (fun j k => (w.cell? ⟨b, o' + (j * sz + k), none⟩).getD Go.undef) hc hl (fun j c k v hj hk => ⟨(h j c k v hj hk).1, (key j c k v hj hk).1, (key j c k v hj hk).2.1⟩) (fun j c k v hj hk => (key j c k v hj hk).2.2)
end
end Go.VL

/- VL, part 12: append. -/
namespace Go.VL
open Go

section
variable {C : Ctx} {X : Fx} {o : Oper} {g : Gh} {w : World} {a : Act} {e : Env} {S : Store} {K : Env → Store → Prop} {R : Act → World → Prop} {Q : Exit → Act → World → Prop}

theorem St.bareSlot {n : Nat} {tmps : Array Value} (h : St n g w e S tmps) (s : Nat) : St n g w (e.put s (e s).bare) S tmps where
 size := h.size
 slots t ht := by
  simp only [Env.put]
  split
  ·rename_i h1; subst h1; exact (h.slots t ht).bare
  ·exact h.slots t ht
 beyond t ht := by
  simp only [Env.put]
  split
  ·rename_i h1; subst h1; rw [h.beyond t ht]; rfl
  ·exact h.beyond t ht
 objs := h.objs
 new := h.new

theorem rows_app {sz : Nat} {rows more : List (List PV)} {j : Nat} {c : List PV} (h : (rows ++ more)[j]? = some c) : (rows[j]? = some c ∧ j < rows.length) ∨ (more[j - rows.length]? = some c ∧ rows.length ≤ j) := by
 by_cases hj : j < rows.length
 ·rw [List.getElem?_append_left hj] at h; exact .inl ⟨h, hj⟩
 ·rw [List.getElem?_append_right (by omega)] at h; exact .inr ⟨h, by omega⟩

/-- A new row. -/
theorem append_new (hn : ∀ b o, w.heap.size ≤ b → g.lab b o = .free) {el : TypeId} {sz : Nat} {rows more : List (List PV)} {olds news : List Value} {zs : Array Value} {cap d : Nat} (hlo : olds.length = rows.length * sz) (hln : news.length = more.length * sz)
  (hlr : ∀ (j : Nat) c, rows[j]? = some c → c.length = sz) (hlm : ∀ (j : Nat) c, more[j]? = some c → c.length = sz)
  (hro : ∀ (j : Nat) (c : List PV) (k : Nat) v, rows[j]? = some c → c[k]? = some v → ∃ u, olds[j * sz + k]? = some u ∧ u.oneCell' = true ∧ Rel g w v u)
  (hrn : ∀ (j : Nat) (c : List PV) (k : Nat) v, more[j]? = some c → c[k]? = some v → ∃ u, news[j * sz + k]? = some u ∧ u.oneCell' = true ∧ Rel g w v u) (hcap : rows.length + more.length ≤ cap) (hz : zs.size = (cap - (rows.length + more.length)) * sz) :
  ∃ g', Quiet g g' w (w.drew.alloc (.cells ((olds ++ news).toArray ++ zs) el)) ∧ Top g' (w.drew.alloc (.cells ((olds ++ news).toArray ++ zs) el)) d (.sl .tail sz (rows ++ more)) (.slice (some ⟨w.heap.size, 0, none⟩) (rows.length + more.length) cap) := by
 have q0 := Quiet.drew (w := w) hn
 have q := q0.trans (Quiet.alloc q0.new (.cells ((olds ++ news).toArray ++ zs) el) (fun k => if k < (rows.length + more.length) * sz then .frozen else .slot d))
 refine ⟨_, q, ?_, .inr rfl, fun k k1 k2 => ?_⟩
 ·have hlen : (rows ++ more).length = rows.length + more.length := List.length_append
  have key : ∀ (j : Nat) (c : List PV) (k : Nat) v, (rows ++ more)[j]? = some c → c[k]? = some v → j * sz + k < (rows.length + more.length) * sz ∧ ∃ u, (olds ++ news)[j * sz + k]? = some u ∧ u.oneCell' = true ∧ Rel g w v u := by
   intro j c k v hj hk
   have hjl : j < rows.length + more.length := by rw [← hlen]; exact (List.getElem?_eq_some_iff.1 hj).1
   have hkc : k < c.length := (List.getElem?_eq_some_iff.1 hk).1
   have hmul : (j + 1) * sz ≤ (rows.length + more.length) * sz := Nat.mul_le_mul_right _ hjl
   rw [Nat.add_mul] at hmul
   rcases rows_app (sz := sz) hj with ⟨h1, h2⟩ | ⟨h1, h2⟩
   ·have hks : k < sz := by rw [← hlr _ _ h1]; exact hkc
    obtain ⟨u, h3, h4, h5⟩ := hro j c k v h1 hk
    refine ⟨by omega, u, ?_, h4, h5⟩
    rw [List.getElem?_append_left (List.getElem?_eq_some_iff.1 h3).1]
    exact h3
   ·have hks : k < sz := by rw [← hlm _ _ h1]; exact hkc
    obtain ⟨u, h3, h4, h5⟩ := hrn _ c k v h1 hk
    refine ⟨by omega, u, ?_, h4, h5⟩
    have e1 : j * sz = rows.length * sz + (j - rows.length) * sz := by rw [← Nat.add_mul]; congr 1; omega
    rw [List.getElem?_append_right (by omega), hlo]
    rw [show j * sz + k - rows.length * sz = (j - rows.length) * sz + k from by omega]
    exact h3
  have := @Rel.rows (g.mark w.heap.size fun k => if k < (rows.length + more.length) * sz then .frozen else .slot d) (w.drew.alloc (.cells ((olds ++ news).toArray ++ zs) el)) .tail sz (rows ++ more) w.heap.size 0 cap (by omega) (fun j c hj => by
   rcases rows_app (sz := sz) hj with ⟨h1, _⟩ | ⟨h1, _⟩
   ·exact hlr _ _ h1
   ·exact hlm _ _ h1) (fun j c k v hj hk => by
   obtain ⟨h0, u, h1, h2, h3⟩ := key j c k v hj hk
   refine ⟨?_, u, ?_, h2, h3.mono q.toFr⟩
   ·simp only [Gh.mark, if_true, Nat.zero_add]
    rw [if_pos h0]
   ·rw [Nat.zero_add]
    have := World.cell?_alloc_new w.drew ((olds ++ news).toArray ++ zs) el (j * sz + k)
    rw [World.size_drew] at this
    rw [this, Array.getElem?_append_left (by simp only [List.size_toArray]; exact (List.getElem?_eq_some_iff.1 h1).1)]
    simpa using h1)
  rwa [hlen] at this
 ·rw [List.length_append] at k1
  refine ⟨?_, ?_, ?_⟩
  ·simp only [Gh.mark, World.size_drew, if_true, Nat.zero_add]
   rw [if_neg (by omega)]
  ·rw [Nat.zero_add]
   have := World.cell?_alloc_new w.drew ((olds ++ news).toArray ++ zs) el k
   rw [World.size_drew] at this
   rw [this]
   have hs : k < ((olds ++ news).toArray ++ zs).size := by
    simp only [Array.size_append, List.size_toArray, List.length_append, hlo, hln, hz, ← Nat.add_mul]
    rw [show rows.length + more.length + (cap - (rows.length + more.length)) = cap from by omega]
    exact k2
   rw [Array.getElem?_eq_getElem hs]
   rfl
  ·have := World.frozen?_alloc_new w.drew ((olds ++ news).toArray ++ zs) el k
   rw [World.size_drew] at this
   rw [Nat.zero_add]
   exact this

/-- There is room. -/
theorem append_room {n : Nat} {tmps : Array Value} (h : St n g w e S tmps) {sz b o' cap s d : Nat} {rows more : List (List PV)} {news : List Value} (hs : s < n) (hd : d < n) (hsz : 0 < sz) (hes : e s = .sl .tail sz rows)
  (hv : tmps.getD s Go.undef = .slice (some ⟨b, o', none⟩) rows.length cap) (hroom : rows.length + more.length ≤ cap) (hln : news.length = more.length * sz) (hlm : ∀ (j : Nat) c, more[j]? = some c → c.length = sz)
  (hrn : ∀ (j : Nat) (c : List PV) (k : Nat) v, more[j]? = some c → c[k]? = some v → ∃ u, news[j * sz + k]? = some u ∧ u.oneCell' = true ∧ Rel g w v u) :
  (∀ j, j < news.length → (w.cell? ⟨b, o' + rows.length * sz + j, none⟩).isSome = true) ∧ (∀ j, j < news.length → w.frozen? ⟨b, o' + rows.length * sz + j, none⟩ = false) ∧
  ∃ g', Fr g g' w (w.setCells b (o' + rows.length * sz) news) ∧ St n g' (w.setCells b (o' + rows.length * sz) news) ((e.put s (e s).bare).put d (.sl .tail sz (rows ++ more))) S (tmps.setIfInBounds d (.slice (some ⟨b, o', none⟩) (rows.length + more.length) cap)) := by
 have htop := h.slots s hs
 rw [hes, hv] at htop
 have htail := htop.tail
 simp only [Tail] at htail
 obtain ⟨_, htail⟩ := htail
 have hmul : (rows.length + more.length) * sz ≤ cap * sz := Nat.mul_le_mul_right _ hroom
 rw [Nat.add_mul] at hmul
 have hcell : ∀ j, j < news.length → g.lab b (o' + rows.length * sz + j) = .slot s ∧ (w.cell? ⟨b, o' + rows.length * sz + j, none⟩).isSome = true ∧ w.frozen? ⟨b, o' + rows.length * sz + j, none⟩ = false := by
  intro j hj
  have := htail (rows.length * sz + j) (by omega) (by omega)
  rw [← Nat.add_assoc] at this
  exact this
 refine ⟨fun j hj => (hcell j hj).2.1, fun j hj => (hcell j hj).2.2, ?_⟩
 have hL : ∀ k, k < news.length → g.lab b (o' + rows.length * sz + k) = .slot s := fun k hk => (hcell k hk).1
 have fr1 : Fr g (g.range b (o' + rows.length * sz) news.length .frozen) w (w.setCells b (o' + rows.length * sz) news) := Fr.write (fun k hk => by rw [hL k hk]; trivial) (fun k hk => (hcell k hk).2.1) (.inl rfl)
 have fr2 := Fr.pass (g.range b (o' + rows.length * sz) news.length .frozen) (w.setCells b (o' + rows.length * sz) news) s d
 have fr := fr1.trans fr2
 refine ⟨_, fr, ?_⟩
 have hnewtop : Top ((g.range b (o' + rows.length * sz) news.length .frozen).pass s d) (w.setCells b (o' + rows.length * sz) news) d (.sl .tail sz (rows ++ more)) (.slice (some ⟨b, o', none⟩) (rows.length + more.length) cap) := by
  have hlen : (rows ++ more).length = rows.length + more.length := List.length_append
  refine ⟨?_, .inr rfl, fun k k1 k2 => ?_⟩
  ·have hold := htop.rel
   have := @Rel.rows ((g.range b (o' + rows.length * sz) news.length .frozen).pass s d) (w.setCells b (o' + rows.length * sz) news) .tail sz (rows ++ more) b o' cap (by omega) (fun j c hj => by
    rcases rows_app (sz := sz) hj with ⟨h1, _⟩ | ⟨h1, _⟩
    ·cases hold with
     | sl fv hc hl _ _ => exact hl _ _ h1
    ·exact hlm _ _ h1) (fun j c k v hj hk => by
    rcases rows_app (sz := sz) hj with ⟨h1, h2⟩ | ⟨h1, h2⟩
    ·cases hold with
     | sl fv hc hl h3 h4 =>
      obtain ⟨q1, q2, q3⟩ := h3 j c k v h1 hk
      exact ⟨fr.frozen _ _ q1, fv j k, fr.cell q1 q2, q3, (h4 j c k v h1 hk).mono fr⟩
    ·have hkc : k < c.length := (List.getElem?_eq_some_iff.1 hk).1
     have hks : k < sz := by rw [← hlm _ _ h1]; exact hkc
     have hjl : j < rows.length + more.length := by rw [← hlen]; exact (List.getElem?_eq_some_iff.1 hj).1
     obtain ⟨u, h3, h4, h5⟩ := hrn _ c k v h1 hk
     have e1 : j * sz = rows.length * sz + (j - rows.length) * sz := by rw [← Nat.add_mul]; congr 1; omega
     have hlt := (List.getElem?_eq_some_iff.1 h3).1
     have hin := World.cell?_setCells_in b news (o' + rows.length * sz) w (fun j hj => (hcell j hj).2.1) _ hlt
     have e2 : o' + rows.length * sz + ((j - rows.length) * sz + k) = o' + (j * sz + k) := by omega
     rw [e2] at hin
     refine ⟨fr2.frozen _ _ (range_in (by omega) (by omega) _), u, ?_, h4, h5.mono fr⟩
     rw [hin]
     rw [List.getElem?_eq_getElem hlt] at h3
     exact h3)
   rwa [hlen] at this
  ·rw [hlen, Nat.add_mul] at k1
   obtain ⟨t1, t2, t3⟩ := htail k (by omega) k2
   have ho : ¬ (b = b ∧ o' + rows.length * sz ≤ o' + k ∧ o' + k < o' + rows.length * sz + news.length) := by omega
   refine ⟨?_, ?_, ?_⟩
   ·have : (g.range b (o' + rows.length * sz) news.length .frozen).lab b (o' + k) = .slot s := (range_out (by omega) _).trans t1
    simp only [Gh.pass, this, if_true]
   ·rw [set_out ho]; exact t2
   ·rw [World.frozen?_setCells]; exact t3
 refine ⟨by simp [h.size], fun t ht => ?_, fun t ht => ?_, fun id cells hi => ?_, fun b' o'' hb => ?_⟩
 ·by_cases e1 : t = d
  ·subst e1
   rw [getD_set_self _ _ _ _ (by rw [h.size]; exact ht)]
   simp only [Env.put, if_true]
   exact hnewtop
  ·rw [getD_set_ne _ _ _ _ _ e1]
   simp only [Env.put, if_neg e1]
   by_cases e2 : t = s
   ·subst e2
    rw [if_pos rfl]
    exact ⟨(h.slots t ht).rel.bare.mono fr, Tail.bare _ _ _ _ _⟩
   ·rw [if_neg e2]
    have := h.slots t ht
    exact ⟨this.rel.mono fr, (this.tail.write hL (by simpa using e2)).pass e2⟩
 ·simp only [Env.put]
  rw [if_neg (by omega), if_neg (by omega)]
  exact h.beyond t ht
 ·exact ((h.objs id cells hi).write hL (by simp) (by simp) fr1).pass
 ·rw [(setCells_size b _ _ w).1] at hb
  have h0 := h.new b' o'' hb
  have : (g.range b (o' + rows.length * sz) news.length .frozen).lab b' o'' = .free := by
   simp only [Gh.range]
   split
   ·rename_i hin
    have := lt_of_isSome (hcell 0 (by omega)).2.1
    omega
   ·exact h0
  simp [Gh.pass, this]

/-! ### arrays of one's own -/
theorem bareAll_len {sz : Nat} : ∀ {more : List (List PV)}, (∀ (j : Nat) c, more[j]? = some c → c.length = sz) → (bareAll more).length = more.length * sz
 | [], _ => by simp [bareAll]
 | c :: more, h => by
  have h0 := h 0 c rfl
  have ih := bareAll_len (more := more) fun j c' hj => h (j + 1) c' (by simpa using hj)
  simp only [bareAll, List.flatten_cons, List.map_append, List.length_append, List.length_map, List.length_cons] at ih ⊢
  rw [ih, h0, Nat.add_mul]
  omega
theorem bareAll_get {sz : Nat} : ∀ {more : List (List PV)}, (∀ (j : Nat) c, more[j]? = some c → c.length = sz) → ∀ (k : Nat) v, (bareAll more)[k]? = some v → ∃ (j : Nat) (c : List PV) (i : Nat) (u : PV), more[j]? = some c ∧ c[i]? = some u ∧ v = u.bare ∧ k = j * sz + i
 | [], _, k, v, hk => by simp [bareAll] at hk
 | c :: more, h, k, v, hk => by
  have h0 := h 0 c rfl
  simp only [bareAll, List.flatten_cons, List.map_append] at hk
  by_cases hlt : k < (c.map PV.bare).length
  ·rw [List.getElem?_append_left hlt] at hk
   simp only [List.getElem?_map, Option.map_eq_some_iff] at hk
   obtain ⟨u, hu, rfl⟩ := hk
   exact ⟨0, c, k, u, rfl, hu, rfl, by omega⟩
  ·rw [List.getElem?_append_right (by omega)] at hk
   obtain ⟨j, c', i, u, h1, h2, h3, h4⟩ := bareAll_get (more := more) (fun j c' hj => h (j + 1) c' (by simpa using hj)) _ v hk
   simp only [List.length_map] at hlt h4
   refine ⟨j + 1, c', i, u, by simpa using h1, h2, h3, ?_⟩
   rw [Nat.add_mul]
   omega

/-- What an array of one's own holds in memory. -/
theorem arr_cells {id : Nat} {cells : List PV} (h : ObjOk g w id cells) (hkn : g.knd id = false) : ∃ olds : List Value, olds.length = cells.length ∧ ∀ (k : Nat) v, cells[k]? = some v → ∃ u, olds[k]? = some u ∧ w.cell? ⟨(g.loc id).1, (g.loc id).2 + k, none⟩ = some u ∧ u.oneCell' = true ∧ Rel g w v u := by
 refine ⟨(List.range cells.length).map fun k => (w.cell? ⟨(g.loc id).1, (g.loc id).2 + k, none⟩).getD Go.undef, by simp, fun k v hk => ?_⟩
 obtain ⟨_, _, u, h3, h4, h5, _⟩ := h.cell hkn k v hk
 refine ⟨u, ?_, h3, h4, h5⟩
 have hlt : k < cells.length := (List.getElem?_eq_some_iff.1 hk).1
 simp only [List.getElem?_map]
 rw [List.getElem?_range hlt]
 simp [h3]

/-- There is room behind an array of one's own. -/
theorem arr_room {n : Nat} {tmps : Array Value} (h : St n g w e S tmps) {sz b o' cap s d id len : Nat} {cells : List PV} {more : List (List PV)} {news : List Value} (hs : s < n) (hd : d < n) (hsz : 0 < sz) (hes : e s = .arr .tail id 0 len sz)
  (hS : S id = some cells) (hcl : cells.length = len * sz)
  (hv : tmps.getD s Go.undef = .slice (some ⟨b, o', none⟩) len cap) (hroom : len + more.length ≤ cap) (hln : news.length = more.length * sz) (hlm : ∀ (j : Nat) c, more[j]? = some c → c.length = sz)
  (hrn : ∀ (j : Nat) (c : List PV) (k : Nat) v, more[j]? = some c → c[k]? = some v → ∃ u, news[j * sz + k]? = some u ∧ u.oneCell' = true ∧ Rel g w v u) :
  (∀ j, j < news.length → (w.cell? ⟨b, o' + len * sz + j, none⟩).isSome = true) ∧ (∀ j, j < news.length → w.frozen? ⟨b, o' + len * sz + j, none⟩ = false) ∧
  ∃ g', Fr g g' w (w.setCells b (o' + len * sz) news) ∧ St n g' (w.setCells b (o' + len * sz) news) ((e.put s (e s).bare).put d (.arr .tail id 0 (len + more.length) sz)) ((S.set id none).set id (some (cells.map PV.bare ++ bareAll more))) (tmps.setIfInBounds d (.slice (some ⟨b, o', none⟩) (len + more.length) cap)) := by
 have htop := h.slots s hs
 rw [hes, hv] at htop
 have htail := htop.tail
 simp only [Tail] at htail
 obtain ⟨⟨_, hid, hkn, hloc⟩, htail⟩ := htail
 simp only [Nat.add_zero, Prod.mk.injEq] at hloc
 obtain ⟨hb, ho⟩ := hloc
 have hmul : (len + more.length) * sz ≤ cap * sz := Nat.mul_le_mul_right _ hroom
 rw [Nat.add_mul] at hmul
 have hcell : ∀ j, j < news.length → g.lab b (o' + len * sz + j) = .slot s ∧ (w.cell? ⟨b, o' + len * sz + j, none⟩).isSome = true ∧ w.frozen? ⟨b, o' + len * sz + j, none⟩ = false := by
  intro j hj
  have := htail (len * sz + j) (by omega) (by omega)
  rw [← Nat.add_assoc] at this
  exact this
 refine ⟨fun j hj => (hcell j hj).2.1, fun j hj => (hcell j hj).2.2, ?_⟩
 have hL : ∀ k, k < news.length → g.lab b (o' + len * sz + k) = .slot s := fun k hk => (hcell k hk).1
 have fr1 : Fr g (g.range b (o' + len * sz) news.length (.obj id)) w (w.setCells b (o' + len * sz) news) := Fr.write (fun k hk => by rw [hL k hk]; trivial) (fun k hk => (hcell k hk).2.1) (.inr trivial)
 have fr2 := Fr.pass (g.range b (o' + len * sz) news.length (.obj id)) (w.setCells b (o' + len * sz) news) s d
 have fr := fr1.trans fr2
 refine ⟨_, fr, ?_⟩
 refine ⟨by simp [h.size], fun t ht => ?_, fun t ht => ?_, fun id' cells' hi => ?_, fun b' o'' hb' => ?_⟩
 ·by_cases e1 : t = d
  ·subst e1
   rw [getD_set_self _ _ _ _ (by rw [h.size]; exact ht)]
   simp only [Env.put, if_true]
   refine ⟨?_, ⟨.inr rfl, hid, hkn, by simp only [Nat.add_zero, hb, ho]; rfl⟩, fun k k1 k2 => ?_⟩
   ·have := @Rel.arr ((g.range b (o' + len * sz) news.length (.obj id)).pass s t) (w.setCells b (o' + len * sz) news) .tail id 0 (len + more.length) sz cap hid hroom hkn
    have e2 : (⟨b, o', none⟩ : Addr) = ⟨(((g.range b (o' + len * sz) news.length (.obj id)).pass s t).loc id).1, (((g.range b (o' + len * sz) news.length (.obj id)).pass s t).loc id).2 + 0, none⟩ := by
     rw [hb, ho]; rfl
    rw [e2]
    exact this
   ·rw [Nat.add_mul] at k1
    obtain ⟨t1, t2, t3⟩ := htail k (by omega) k2
    have ho2 : ¬ (b = b ∧ o' + len * sz ≤ o' + k ∧ o' + k < o' + len * sz + news.length) := by omega
    refine ⟨?_, ?_, ?_⟩
    ·have : (g.range b (o' + len * sz) news.length (.obj id)).lab b (o' + k) = .slot s := (range_out (by omega) _).trans t1
     simp only [Gh.pass, this, if_true]
    ·rw [set_out ho2]; exact t2
    ·rw [World.frozen?_setCells]; exact t3
  ·rw [getD_set_ne _ _ _ _ _ e1]
   simp only [Env.put, if_neg e1]
   by_cases e2 : t = s
   ·subst e2
    rw [if_pos rfl]
    exact ⟨(h.slots t ht).rel.bare.mono fr, Tail.bare _ _ _ _ _⟩
   ·rw [if_neg e2]
    have := h.slots t ht
    exact ⟨this.rel.mono fr, (this.tail.write hL (by simpa using e2)).pass e2⟩
 ·simp only [Env.put]
  rw [if_neg (by omega), if_neg (by omega)]
  exact h.beyond t ht
 ·simp only [Store.set] at hi
  split at hi
  ·rename_i heq
   subst heq
   injection hi with hi
   subst hi
   have hold := ((h.objs id' cells hS).write hL (by simp) (by simp) fr1).pass (s := s) (d := d) |>.bareCells
   refine ⟨hid, fun _ k v hk => ?_, fun hn => by (rw [show ((g.range b (o' + len * sz) news.length (.obj id')).pass s d).knd id' = g.knd id' from rfl, hkn] at hn; cases hn)⟩
   by_cases hk1 : k < (cells.map PV.bare).length
   ·rw [List.getElem?_append_left hk1] at hk
    exact hold.cell hkn k v hk
   ·rw [List.getElem?_append_right (by omega)] at hk
    obtain ⟨j, c, i, u, q1, q2, q3, q4⟩ := bareAll_get hlm _ v hk
    subst q3
    obtain ⟨u', p1, p2, p3⟩ := hrn j c i u q1 q2
    have hlt := (List.getElem?_eq_some_iff.1 p1).1
    have hin := World.cell?_setCells_in b news (o' + len * sz) w (fun j hj => (hcell j hj).2.1) _ hlt
    simp only [List.length_map] at hk1 q4
    have e2 : o' + len * sz + (j * sz + i) = o' + k := by omega
    rw [e2] at hin
    have hl1 : (g.range b (o' + len * sz) news.length (.obj id')).lab b (o' + k) = .obj id' := range_in (by omega) (by omega) _
    have hl2 : ((g.range b (o' + len * sz) news.length (.obj id')).pass s d).lab b (o' + k) = .obj id' := by
     simp only [Gh.pass, hl1]
     rw [if_neg (by simp)]
    have hm := (hcell (j * sz + i) hlt).2.2
    rw [e2] at hm
    have e3 : (((g.range b (o' + len * sz) news.length (.obj id')).pass s d).loc id').1 = b ∧ (((g.range b (o' + len * sz) news.length (.obj id')).pass s d).loc id').2 = o' := ⟨hb.symm, ho.symm⟩
    rw [e3.1, e3.2]
    refine ⟨hl2, by rw [World.frozen?_setCells]; exact hm, u', ?_, p2, (p3.mono fr).bare, RoomOk.bare _ _ _ _ _ _⟩
    rw [hin]
    rw [List.getElem?_eq_getElem hlt] at p1
    exact p1
  ·exact ((h.objs id' cells' hi).write hL (by simp) (by simp) fr1).pass
 ·rw [(setCells_size b _ _ w).1] at hb'
  have h0 := h.new b' o'' hb'
  have : (g.range b (o' + len * sz) news.length (.obj id)).lab b' o'' = .free := by
   simp only [Gh.range]
   split
   ·rename_i hin
    have := lt_of_isSome (hcell 0 (by omega)).2.1
    omega
   ·exact h0
  simp [Gh.pass, this]

/-- A new block for an array of one's own. -/
theorem arr_grow {n : Nat} {tmps : Array Value} (h : St n g w e S tmps) {el : TypeId} {sz s d id len cap : Nat} {cells : List PV} {more : List (List PV)} {olds news : List Value} {zs : Array Value} (hs : s < n) (hd : d < n) (h0 : 0 < sz)
  (hS : S id = some cells) (hcl : cells.length = len * sz) (hlo : olds.length = cells.length) (hro : ∀ (k : Nat) v, cells[k]? = some v → ∃ u, olds[k]? = some u ∧ w.cell? ⟨(g.loc id).1, (g.loc id).2 + k, none⟩ = some u ∧ u.oneCell' = true ∧ Rel g w v u)
  (hln : news.length = more.length * sz) (hlm : ∀ (j : Nat) c, more[j]? = some c → c.length = sz)
  (hrn : ∀ (j : Nat) (c : List PV) (k : Nat) v, more[j]? = some c → c[k]? = some v → ∃ u, news[j * sz + k]? = some u ∧ u.oneCell' = true ∧ Rel g w v u) (hcap : len + more.length ≤ cap) (hz : zs.size = (cap - (len + more.length)) * sz) :
  ∃ g', Fr g g' w (w.drew.alloc (.cells ((olds ++ news).toArray ++ zs) el)) ∧ (S.set id none) g.nxt = none ∧
   St n g' (w.drew.alloc (.cells ((olds ++ news).toArray ++ zs) el)) ((e.put s (e s).bare).put d (.arr .tail g.nxt 0 (len + more.length) sz)) ((S.set id none).set g.nxt (some (cells.map PV.bare ++ bareAll more))) (tmps.setIfInBounds d (.slice (some ⟨w.heap.size, 0, none⟩) (len + more.length) cap)) := by
 have q0 := Quiet.drew (w := w) h.new
 have q1 := q0.trans (Quiet.alloc q0.new (.cells ((olds ++ news).toArray ++ zs) el) (fun k => if k < (len + more.length) * sz then .obj g.nxt else .slot d))
 have q := q1.trans (Quiet.one q1.new w.heap.size 0)
 have hnx : (S.set id none) g.nxt = none := by
  simp only [Store.set]
  split
  ·rfl
  ·exact h.nxtNone
 refine ⟨_, q.toFr, hnx, ?_⟩
 have hloc : (((g.mark w.drew.heap.size fun k => if k < (len + more.length) * sz then .obj g.nxt else .slot d).one w.heap.size 0).loc g.nxt) = (w.heap.size, 0) := by
  simp [Gh.one, Gh.mark]
 have htop : Top ((g.mark w.drew.heap.size fun k => if k < (len + more.length) * sz then .obj g.nxt else .slot d).one w.heap.size 0) (w.drew.alloc (.cells ((olds ++ news).toArray ++ zs) el)) d (.arr .tail g.nxt 0 (len + more.length) sz) (.slice (some ⟨w.heap.size, 0, none⟩) (len + more.length) cap) := by
  have hnxt : g.nxt < ((g.mark w.drew.heap.size fun k => if k < (len + more.length) * sz then .obj g.nxt else .slot d).one w.heap.size 0).nxt := by simp [Gh.one, Gh.mark]
  have hkz : ((g.mark w.drew.heap.size fun k => if k < (len + more.length) * sz then .obj g.nxt else .slot d).one w.heap.size 0).knd g.nxt = false := by simp [Gh.one, Gh.mark]
  refine ⟨?_, ⟨.inr rfl, hnxt, hkz, by rw [hloc]⟩, fun k k1 k2 => ⟨?_, ?_, ?_⟩⟩
  ·have := @Rel.arr ((g.mark w.drew.heap.size fun k => if k < (len + more.length) * sz then .obj g.nxt else .slot d).one w.heap.size 0) (w.drew.alloc (.cells ((olds ++ news).toArray ++ zs) el)) .tail g.nxt 0 (len + more.length) sz cap hnxt hcap hkz
   rw [hloc] at this
   exact this
  ·simp only [Gh.one, Gh.mark, World.size_drew, if_true, Nat.zero_add]
   rw [if_neg (by omega)]
  ·rw [Nat.zero_add]
   have := World.cell?_alloc_new w.drew ((olds ++ news).toArray ++ zs) el k
   rw [World.size_drew] at this
   rw [this]
   have hs : k < ((olds ++ news).toArray ++ zs).size := by
    simp only [Array.size_append, List.size_toArray, List.length_append, hlo, hcl, hln, hz, ← Nat.add_mul]
    rw [show len + more.length + (cap - (len + more.length)) = cap from by omega]
    exact k2
   rw [Array.getElem?_eq_getElem hs]
   rfl
  ·have := World.frozen?_alloc_new w.drew ((olds ++ news).toArray ++ zs) el k
   rw [World.size_drew] at this
   rw [Nat.zero_add]
   exact this
 have h1 := (((h.quiet q).bareSlot s).drop (S' := S.set id none) (fun i c hi => by
  simp only [Store.set] at hi
  split at hi
  ·cases hi
  ·exact hi)).put hd htop
 refine ⟨h1.size, h1.slots, h1.beyond, fun id' cells' hi => ?_, h1.new⟩
 simp only [Store.set] at hi
 split at hi
 ·rename_i heq
  subst heq
  injection hi with hi
  subst hi
  refine ⟨by simp [Gh.one, Gh.mark], fun _ k v hk => ?_, fun hn => by simp [Gh.one, Gh.mark] at hn⟩
  rw [hloc]
  have hlen : (cells.map PV.bare ++ bareAll more).length = (len + more.length) * sz := by
   rw [List.length_append, List.length_map, hcl, bareAll_len hlm, Nat.add_mul]
  have hkl : k < (len + more.length) * sz := by rw [← hlen]; exact (List.getElem?_eq_some_iff.1 hk).1
  have key : ∃ u, (olds ++ news)[k]? = some u ∧ u.oneCell' = true ∧ Rel g w v u := by
   by_cases hk1 : k < (cells.map PV.bare).length
   ·rw [List.getElem?_append_left hk1] at hk
    simp only [List.getElem?_map, Option.map_eq_some_iff] at hk
    obtain ⟨u0, hu0, rfl⟩ := hk
    obtain ⟨u, p1, p2, p3, p4⟩ := hro k u0 hu0
    exact ⟨u, by rw [List.getElem?_append_left (List.getElem?_eq_some_iff.1 p1).1]; exact p1, p3, p4.bare⟩
   ·rw [List.getElem?_append_right (by omega)] at hk
    obtain ⟨j, c, i, u0, p1, p2, p3, p4⟩ := bareAll_get hlm _ v hk
    subst p3
    obtain ⟨u, r1, r2, r3⟩ := hrn j c i u0 p1 p2
    simp only [List.length_map] at hk1 p4
    refine ⟨u, ?_, r2, r3.bare⟩
    rw [List.getElem?_append_right (by omega), show k - olds.length = j * sz + i from by omega]
    exact r1
  obtain ⟨u, r1, r2, r3⟩ := key
  have hbare : v.bare = v := by
   have : v ∈ cells.map PV.bare ++ bareAll more := List.mem_of_getElem? hk
   simp only [bareAll, List.mem_append, List.mem_map] at this
   rcases this with ⟨x, _, rfl⟩ | ⟨x, _, rfl⟩ <;> exact PV.bare_bare x
  refine ⟨?_, ?_, u, ?_, r2, r3.mono q.toFr, RoomOk.ofBare hbare⟩
  ·simp only [Gh.one, Gh.mark, World.size_drew, if_true, Nat.zero_add]
   rw [if_pos hkl]
  ·have := World.frozen?_alloc_new w.drew ((olds ++ news).toArray ++ zs) el k
   rw [World.size_drew] at this
   rw [Nat.zero_add]
   exact this
  ·have := World.cell?_alloc_new w.drew ((olds ++ news).toArray ++ zs) el k
   rw [World.size_drew] at this
   rw [Nat.zero_add, this, Array.getElem?_append_left (by simp only [List.size_toArray]; exact (List.getElem?_eq_some_iff.1 r1).1)]
   simpa using r1
 ·exact h1.objs id' cells' hi
end
end Go.VL

/- VL, part 13: append as an operation; calls. -/
namespace Go.VL
open Go

section
variable {C : Ctx} {X : Fx} {o : Oper} {g : Gh} {w : World} {a : Act} {e : Env} {S : Store} {K : Env → Store → Prop} {R : Act → World → Prop} {Q : Exit → Act → World → Prop}

theorem fits_cap {need old bytes : Nat} (h : old < need) (hb : need * bytes ≤ capOf bytes) : Builtin.nextslicecap need old * bytes ≤ 281474976710656 := by
 by_cases h1 : bytes = 1
 ·subst h1
  rw [capOf_one] at hb
  exact growslice_fits_wide h (by omega)
 ·have : capOf bytes = 140737488355328 := by
   match bytes, h1 with
   | 0, _ => rfl
   | b + 2, _ => rfl
  rw [this] at hb
  exact growslice_fits h hb

theorem pappend_ok {ts : Array TypeId} {s x : PV} {rx : Value} {sz : Nat} {rows more : List (List PV)} (hp : pappend C ts.toList s x = some (sz, rows, more)) (hx : Rel g w x rx) :
  ∃ t tx el te, ts = #[t, tx] ∧ C.P.underlying t = some (.slice el) ∧ C.T el = some te ∧ te.size = sz ∧ 0 < sz ∧ s = .sl .tail sz rows ∧ (rows.length + more.length) * te.bytes ≤ capOf te.bytes ∧ rows.length + more.length ≤ capOf te.bytes ∧ ∃ news, SrcOf C g w sz tx rx more news := by
 unfold pappend at hp
 split at hp
 ·rename_i t tx hts
  have hts : ts = #[t, tx] := by
   apply Array.ext'
   simpa using hts
  split at hp
  ·rename_i el _ _ _ hT
   have hu := und_slice (C := C) hT rfl
   split at hp
   ·rename_i te hte
    split at hp
    ·rename_i sz1 rows1
     unfold pappendTo at hp
     split at hp
     ·rename_i ti hTx
      split at hp
      ·rename_i ex f2 sz2 more2 hk
       have hux := und_slice (C := C) hTx hk
       split at hp
       ·rename_i hc
        injection hp with hp
        injection hp with h1 h2
        injection h2 with h2 h3
        subst h1; subst h2; subst h3
        obtain ⟨c1, c2, c3, c4, c5⟩ := hc
        subst c2
        obtain ⟨news, hn⟩ := src_of_sl (C := C) c3 hux hx
        exact ⟨t, tx, el, te, hts, hu, hte, c1, c3, rfl, c4, c5, news, hn⟩
       ·cases hp
      ·rename_i b hk
       have hux := und_str (C := C) hTx hk
       split at hp
       ·rename_i hc
        injection hp with hp
        injection hp with h1 h2
        injection h2 with h2 h3
        subst h1; subst h2; subst h3
        obtain ⟨c1, c2, c4, c5⟩ := hc
        subst c2
        have := rel_str hx
        subst this
        have hlen : (b.data.toList.map fun c => ([.int .u8 (c.toNat : Int)] : List PV)).length = b.size := by simp
        exact ⟨t, tx, el, te, hts, hu, hte, c1, Nat.one_pos, rfl, by rw [hlen]; exact c4, by rw [hlen]; exact c5, _, src_of_str hux⟩
       ·cases hp
      ·cases hp
     ·cases hp
    ·cases hp
   ·cases hp
  ·cases hp
 ·cases hp

theorem news_one {sz : Nat} {tx : TypeId} {x : Value} {more : List (List PV)} {news : List Value} (h : SrcOf C g w sz tx x more news) :
  ∀ (j : Nat) (c : List PV) (k : Nat) v, more[j]? = some c → c[k]? = some v → ∃ u, news[j * sz + k]? = some u ∧ u.oneCell' = true ∧ Rel g w v u := by
 intro j c k v hj hk
 obtain ⟨u, h1, h2⟩ := h.rel j c k v hj hk
 exact ⟨u, h1, h.src.one u (List.mem_of_getElem? h1), h2⟩

def srcEnv (e : Env) : Option Nat → Env
 | none => e
 | some s => e.put s (e s).bare

/-- append, whatever the first slice is: a row that grows, or one that does not. -/
theorem append_run {n : Nat} {tmps : Array Value} (h : St n g w e S tmps) {t tx ty el : TypeId} {te : TI} {sz : Nat} {rows more : List (List PV)} {rx rs : Value} {news : List Value} (hu : C.P.underlying t = some (.slice el)) (hte : C.T el = some te) (hsz : te.size = sz) (h0 : 0 < sz)
  (hb : (rows.length + more.length) * te.bytes ≤ capOf te.bytes) (hl : rows.length + more.length ≤ capOf te.bytes) (hn : SrcOf C g w sz tx rx more news) {d : Nat} (hd : d < n) (src : Option Nat)
  (hs : match src with | none => rs = .slice none 0 0 ∧ rows = [] | some s => s < n ∧ e s = .sl .tail sz rows ∧ tmps.getD s Go.undef = rs) :
  ∃ rv w' g', (Builtin.append_ #[t, tx] ty #[rs, rx]).run C.P w = .ok rv w' ∧ Fr g g' w w' ∧ St n g' w' ((srcEnv e src).put d (.sl .tail sz (rows ++ more))) S (tmps.setIfInBounds d rv) := by
 obtain ⟨i, z, hi, hisz, hib, hz, hzs, _⟩ := (C.hT _ _ hte).info
 have hcap9 := (capOf_le te.bytes).1
 have hsrc := hn.src
 rw [← hsz, ← hisz] at hsrc
 have hln := hn.src.newsLen
 have close : ∀ {g' w' rv}, Quiet g g' w w' → Top g' w' d (.sl .tail sz (rows ++ more)) rv → St n g' w' ((srcEnv e src).put d (.sl .tail sz (rows ++ more))) S (tmps.setIfInBounds d rv) := by
  intro g' w' rv q ht
  cases src with
  | none => exact (h.quiet q).put hd ht
  | some s => exact ((h.quiet q).bareSlot s).put hd ht
 have nilCase : rs = .slice none 0 0 → rows = [] → ∃ rv w' g', (Builtin.append_ #[t, tx] ty #[rs, rx]).run C.P w = .ok rv w' ∧ Fr g g' w w' ∧ St n g' w' ((srcEnv e src).put d (.sl .tail sz (rows ++ more))) S (tmps.setIfInBounds d rv) := by
  intro hrs hrows
  subst hrs; subst hrows
  by_cases hm : more.length = 0
  ·have hme : more = [] := List.eq_nil_of_length_eq_zero hm
   subst hme
   have hnews : news = [] := List.eq_nil_of_length_eq_zero (by rw [hln]; simp)
   subst hnews
   have hl0 : ∀ w', (Builtin.lenOf rx).run C.P w' = .ok 0 w' := hsrc.len
   have hc0 : (Builtin.firstCells i.size 0 rx).run C.P w = .ok #[] w := hsrc.cells
   have hrun : (Builtin.append_ #[t, tx] ty #[.slice none 0 0, rx]).run C.P w = .ok (.slice none 0 0) w := by
    rcases hsrc.kind with ⟨e', hk⟩ | hk <;> simp [Builtin.append_, run_underlying hu, run_underlying hk, sizeOf, typeInfo, hi, hl0, hc0]
   have ht : Top g w d (.sl .tail sz ([] ++ [])) (.slice none 0 0) := ⟨.slnil _ _, by simp [Tail]⟩
   exact ⟨_, w, g, hrun, Fr.refl g w, close (Quiet.refl h.new) ht⟩
  ·simp only [List.length_nil, Nat.zero_add] at hb hl
   have hfit : Builtin.nextslicecap (0 + more.length) 0 * i.bytes ≤ 281474976710656 := fits_cap (by omega) (by rw [hib, Nat.zero_add]; exact hb)
   have hrun := run_append_grow_src (P := C.P) w t tx ty el i z hu hi hz none 0 0 [] (run_firstCells_none w.drew i.size 0 0 0) rx more.length news hsrc (by omega) (by omega) hfit
   obtain ⟨g', q, ht⟩ := append_new (d := d) h.new (el := el) (sz := sz) (rows := []) (more := more) (olds := []) (news := news) (zs := Builtin.zeroCells z.cells (grownCap w (0 + more.length) 0 el - (0 + more.length))) (cap := grownCap w (0 + more.length) 0 el) (by simp) hln (by simp) hn.len (by simp) (news_one hn) (grownCap_ge w _ _ _) (by
    rw [size_zeroCells, hzs, hsz]
    rfl)
   exact ⟨_, _, g', hrun, q.toFr, close q ht⟩
 cases src with
 | none => exact nilCase hs.1 hs.2
 | some s =>
  obtain ⟨hsn, hes, hrs⟩ := hs
  have htop := h.slots s hsn
  rw [hes, hrs] at htop
  rcases sl_parts htop.rel with ⟨h1, h2⟩ | ⟨b, o', sp, cap, h1, hcap, hsp⟩
  ·exact nilCase h1 h2
  ·subst h1
   by_cases hroom : rows.length + more.length ≤ cap
   ·by_cases hz0 : cap = 0
    ·subst hz0
     have hr0 : rows = [] := List.eq_nil_of_length_eq_zero (by omega)
     subst hr0
     have hm0 : more = [] := List.eq_nil_of_length_eq_zero (by omega)
     subst hm0
     have hnews : news = [] := List.eq_nil_of_length_eq_zero (by rw [hln]; simp)
     subst hnews
     have hrun : (Builtin.append_ #[t, tx] ty #[.slice (some ⟨b, o', sp⟩) 0 0, rx]).run C.P w = .ok (.slice (some ⟨b, o', sp⟩) 0 0) w := by
      have hl0 : ∀ w', (Builtin.lenOf rx).run C.P w' = .ok 0 w' := hsrc.len
      have hc0 : (Builtin.firstCells i.size 0 rx).run C.P w = .ok #[] w := hsrc.cells
      have hst : ∀ a : Addr, (storeCells a [] 0).run C.P w = .ok () w := by
       intro a
       unfold storeCells
       rfl
      rcases hsrc.kind with ⟨e', hk⟩ | hk <;> simp [Builtin.append_, run_underlying hu, run_underlying hk, sizeOf, typeInfo, hi, hl0, hc0, hst]
     refine ⟨_, w, g, hrun, Fr.refl g w, close (Quiet.refl h.new) ?_⟩
     exact ⟨htop.rel, .inl (by simp), fun k k1 k2 => by simp at k2⟩
    have hsp : sp = none := by
     rcases htop.tail.1 with e1 | e1
     ·rcases Nat.mul_eq_zero.1 e1 with e1 | e1
      ·exact absurd e1 hz0
      ·omega
     ·exact e1
    subst hsp
    obtain ⟨a1, a2, g', fr, hst⟩ := append_room h (more := more) hsn hd h0 hes hrs hroom hln hn.len (news_one hn)
    have hrun := run_append_room_src (P := C.P) w t tx ty el i hu hi b o' rows.length cap rx more.length news hsrc hroom (by rw [hisz, hsz]; exact a1) (by rw [hisz, hsz]; exact a2)
    rw [hisz, hsz] at hrun
    exact ⟨_, _, g', hrun, fr, hst⟩
   ·obtain ⟨olds, q1, q2, q3, q4⟩ := sl_cells h0 htop.rel
    have hfit : Builtin.nextslicecap (rows.length + more.length) cap * i.bytes ≤ 281474976710656 := fits_cap (by omega) (by rw [hib]; exact hb)
    have hold : (Builtin.firstCells i.size rows.length (.slice (some ⟨b, o', sp⟩) rows.length cap)).run C.P w.drew = .ok olds.toArray w.drew := run_firstCells_some w.drew i.size rows.length ⟨b, o', sp⟩ rows.length cap olds (by rw [q1, hisz, hsz]) (fun j u hj => by rw [World.cell?_drew]; exact (q2 j u hj).1)
    have hrun := run_append_grow_src (P := C.P) w t tx ty el i z hu hi hz (some ⟨b, o', sp⟩) rows.length cap olds hold rx more.length news hsrc (by omega) (by omega) hfit
    obtain ⟨g', q, ht⟩ := append_new (d := d) h.new (el := el) (sz := sz) (rows := rows) (more := more) (olds := olds) (news := news) (zs := Builtin.zeroCells z.cells (grownCap w (rows.length + more.length) cap el - (rows.length + more.length))) (cap := grownCap w (rows.length + more.length) cap el) q1 hln q3 hn.len (fun j c k v hj hk => by
     obtain ⟨u, r1, r2⟩ := q4 j c k v hj hk
     exact ⟨u, r1, (q2 _ _ r1).2, r2⟩) (news_one hn) (grownCap_ge w _ _ _) (by rw [size_zeroCells, hzs, hsz])
    exact ⟨_, _, g', hrun, q.toFr, close q ht⟩

theorem arows_len {cells : List PV} {off len sz : Nat} : (arows cells off len sz).length = len := by simp [arows]
theorem arows_get {cells : List PV} {off len sz j : Nat} {c : List PV} (h : (arows cells off len sz)[j]? = some c) : j < len ∧ c = ((cells.drop (off + j * sz)).take sz).map PV.bare := by
 simp only [arows, List.getElem?_map, Option.map_eq_some_iff] at h
 obtain ⟨i, hi, rfl⟩ := h
 obtain ⟨hlt, he⟩ := List.getElem?_eq_some_iff.1 hi
 simp at hlt he
 subst he
 exact ⟨hlt, rfl⟩

theorem src_of_arr {f : Fl} {id off len sz : Nat} {cells : List PV} {tx el : TypeId} {x : Value} (hsz : 0 < sz) (hu : C.P.underlying tx = some (.slice el)) (hob : ObjOk g w id cells) (hle : off + len * sz ≤ cells.length) (h : Rel g w (.arr f id off len sz) x) :
  ∃ news, SrcOf C g w sz tx x (arows cells off len sz) news := by
 cases h with
 | arr0 f id off sz a cap ha =>
  cases a with
  | none =>
   rw [ha rfl]
   exact ⟨[], Src.ofNil w hu 0, by simp [arows], by simp [arows]⟩
  | some a =>
   exact ⟨[], Src.ofSlice w hu _ _ _ [] (by simp) (by simp) (by simp), by simp [arows], by simp [arows]⟩
 | @arr _ _ _ _ _ cap hid hcap hkn =>
  have hmul : ∀ j, j < len → j * sz + sz ≤ len * sz := fun j hj => by
   have : (j + 1) * sz ≤ len * sz := Nat.mul_le_mul_right _ hj
   rw [Nat.add_mul] at this
   omega
  have hval : ∀ i, i < len * sz → ∃ u, w.cell? ⟨(g.loc id).1, (g.loc id).2 + (off + i), none⟩ = some u ∧ u.oneCell' = true ∧ ∀ v, cells[off + i]? = some v → Rel g w v u := by
   intro i hi
   obtain ⟨_, _, u, h3, h4, h5, _⟩ := hob.cell hkn (off + i) _ (List.getElem?_eq_getElem (by omega))
   exact ⟨u, h3, h4, fun v hv => by rw [List.getElem?_eq_getElem (by omega)] at hv; injection hv with hv; subst hv; exact h5⟩
  refine ⟨(List.range (len * sz)).map fun i => (w.cell? ⟨(g.loc id).1, (g.loc id).2 + (off + i), none⟩).getD Go.undef, ⟨?_, fun j c hj => ?_, fun j c k v hj hk => ?_⟩⟩
  ·rw [arows_len]
   refine Src.ofSlice w hu _ _ _ _ (by simp) (fun j u hj => ?_) (fun u hu => ?_)
   ·simp only [List.getElem?_map, Option.map_eq_some_iff] at hj
    obtain ⟨i, hi, rfl⟩ := hj
    obtain ⟨hlt, he⟩ := List.getElem?_eq_some_iff.1 hi
    simp at hlt he
    subst he
    obtain ⟨u, h3, _⟩ := hval j hlt
    rw [Addr.add_lit, Nat.add_assoc, h3]
    rfl
   ·simp only [List.mem_map, List.mem_range] at hu
    obtain ⟨i, hi, rfl⟩ := hu
    obtain ⟨u, h3, h4, _⟩ := hval i hi
    rw [h3]
    exact h4
  ·obtain ⟨hlt, rfl⟩ := arows_get hj
   have := hmul j hlt
   simp only [List.length_map, List.length_take, List.length_drop]
   omega
  ·obtain ⟨hlt, rfl⟩ := arows_get hj
   have := hmul j hlt
   simp only [List.getElem?_map, Option.map_eq_some_iff, List.getElem?_take, List.getElem?_drop] at hk
   obtain ⟨u0, hu0, rfl⟩ := hk
   split at hu0
   ·rename_i hks
    obtain ⟨u, h3, h4, h5⟩ := hval (j * sz + k) (by omega)
    refine ⟨u, ?_, (h5 u0 (by rw [← Nat.add_assoc]; exact hu0)).bare⟩
    simp only [List.getElem?_map]
    rw [List.getElem?_range (by omega)]
    simp [h3]
   ·cases hu0

omit g w a e S K R Q o X in
theorem pappendTo_undef {te : TI} {tx : TypeId} {sz : Nat} {rows : List (List PV)} : pappendTo C te tx sz rows .undef = none := by
 unfold pappendTo
 cases C.T tx with
 | none => rfl
 | some ti =>
  obtain ⟨k, _, _, _⟩ := ti
  cases k <;> rfl
omit g w a e S K R Q o X in
theorem pappend_undef {ts : List TypeId} {s : PV} : pappend C ts s .undef = none := by
 unfold pappend
 split
 ·split
  ·split
   ·split
    ·exact pappendTo_undef
    ·rfl
   ·rfl
  ·rfl
 ·rfl

/-- What is appended, of a slice or of an array of one's own. -/
theorem vw_src {n : Nat} {tmps : Array Value} (h : St n g w e S tmps) {ts : Array TypeId} {s x : PV} {rx : Value} {sz : Nat} {rows more : List (List PV)} (hp : pappend C ts.toList s (vw S x) = some (sz, rows, more)) (hx : Rel g w x rx) :
  ∃ t tx el te, ts = #[t, tx] ∧ C.P.underlying t = some (.slice el) ∧ C.T el = some te ∧ te.size = sz ∧ 0 < sz ∧ s = .sl .tail sz rows ∧ (rows.length + more.length) * te.bytes ≤ capOf te.bytes ∧ rows.length + more.length ≤ capOf te.bytes ∧ ∃ news, SrcOf C g w sz tx rx more news := by
 unfold vw at hp
 split at hp
 ·rename_i f id off len sz'
  split at hp
  ·rename_i cells hS
   split at hp
   ·rename_i hle
    -- the view has the make of a slice of frozen rows: the source alone is another
    unfold pappend at hp
    split at hp
    ·rename_i t tx hts
     have hts : ts = #[t, tx] := by
      apply Array.ext'
      simpa using hts
     split at hp
     ·rename_i el _ _ _ hT
      have hu := und_slice (C := C) hT rfl
      split at hp
      ·rename_i te hte
       split at hp
       ·rename_i sz1 rows1
        unfold pappendTo at hp
        split at hp
        ·rename_i ti hTx
         split at hp
         ·rename_i ex f2 sz2 more2 hk heq
          injection heq with e1 e2 e3
          subst e2; subst e3
          have hux := und_slice (C := C) hTx hk
          split at hp
          ·rename_i hc
           injection hp with hp
           injection hp with h1 h2
           injection h2 with h2 h3
           subst h1; subst h2; subst h3
           obtain ⟨c1, c2, c3, c4, c5⟩ := hc
           subst c2
           obtain ⟨news, hn⟩ := src_of_arr (C := C) c3 hux (h.objs _ _ hS) hle hx
           exact ⟨t, tx, el, te, hts, hu, hte, c1, c3, rfl, c4, c5, news, hn⟩
          ·cases hp
         ·rename_i heq; cases heq
         ·cases hp
        ·cases hp
       ·cases hp
      ·cases hp
     ·cases hp
    ·cases hp
   ·rw [pappend_undef] at hp
    cases hp
  ·rw [pappend_undef] at hp
   cases hp
 ·exact pappend_ok hp hx

/-- append to an array of one's own: it grows, or it moves. -/
theorem append_arr {n : Nat} {tmps : Array Value} (h : St n g w e S tmps) {t tx ty el : TypeId} {te : TI} {sz len id s d : Nat} {cells : List PV} {more : List (List PV)} {rx : Value} {news : List Value} (hu : C.P.underlying t = some (.slice el)) (hte : C.T el = some te) (hsz : te.size = sz) (h0 : 0 < sz)
  (hb : (len + more.length) * te.bytes ≤ capOf te.bytes) (hl : len + more.length ≤ capOf te.bytes) (hn : SrcOf C g w sz tx rx more news) (hd : d < n) (hs : s < n) (hes : e s = .arr .tail id 0 len sz) (hS : S id = some cells) (hcl : cells.length = len * sz) :
  ∃ rv w' g' id', (Builtin.append_ #[t, tx] ty #[tmps.getD s Go.undef, rx]).run C.P w = .ok rv w' ∧ Fr g g' w w' ∧ (S.set id none) id' = none ∧
   St n g' w' ((e.put s (e s).bare).put d (.arr .tail id' 0 (len + more.length) sz)) ((S.set id none).set id' (some (cells.map PV.bare ++ bareAll more))) (tmps.setIfInBounds d rv) := by
 obtain ⟨i, z, hi, hisz, hib, hz, hzs, _⟩ := (C.hT _ _ hte).info
 have hcap9 := (capOf_le te.bytes).1
 have hsrc := hn.src
 rw [← hsz, ← hisz] at hsrc
 have hln := hn.src.newsLen
 obtain ⟨olds, ho1, ho2⟩ : ∃ olds : List Value, olds.length = cells.length ∧ ∀ (k : Nat) v, cells[k]? = some v → ∃ u, olds[k]? = some u ∧ w.cell? ⟨(g.loc id).1, (g.loc id).2 + k, none⟩ = some u ∧ u.oneCell' = true ∧ Rel g w v u := by
  by_cases hne : cells = []
  ·subst hne
   exact ⟨[], rfl, by simp⟩
  ·have hr := (h.slots s hs).rel
   rw [hes] at hr
   generalize tmps.getD s Go.undef = q at hr
   cases hr with
   | arr0 =>
    rw [Nat.zero_mul] at hcl
    exact absurd (List.eq_nil_of_length_eq_zero hcl) hne
   | arr _ _ _ hkn => exact arr_cells (h.objs _ _ hS) hkn
 have htop := h.slots s hs
 have hset : ∀ c, (S.set id none).set id (some c) = S.set id (some c) := fun c => by
  funext i; simp only [Store.set]; split <;> rfl
 generalize hrs : tmps.getD s Go.undef = rs at htop
 rw [hes] at htop
 have grow : ∀ (a : Option Addr) (cap : Nat), rs = .slice a len cap → ¬ (len + more.length ≤ cap) → (len = 0 ∨ a = some ⟨(g.loc id).1, (g.loc id).2, none⟩) → ∃ rv w' g' id', (Builtin.append_ #[t, tx] ty #[rs, rx]).run C.P w = .ok rv w' ∧ Fr g g' w w' ∧ (S.set id none) id' = none ∧
   St n g' w' ((e.put s (e s).bare).put d (.arr .tail id' 0 (len + more.length) sz)) ((S.set id none).set id' (some (cells.map PV.bare ++ bareAll more))) (tmps.setIfInBounds d rv) := by
  intro a cap hrv hroom hbase
  subst hrv
  have hfit : Builtin.nextslicecap (len + more.length) cap * i.bytes ≤ 281474976710656 := fits_cap (by omega) (by rw [hib]; exact hb)
  have hold : (Builtin.firstCells i.size len (.slice a len cap)).run C.P w.drew = .ok olds.toArray w.drew := by
   rcases hbase with rfl | rfl
   ·have hc0 : cells = [] := List.eq_nil_of_length_eq_zero (by rw [hcl]; simp)
    have hol : olds = [] := List.eq_nil_of_length_eq_zero (by rw [ho1, hc0]; rfl)
    subst hol
    cases a with
    | none => exact run_firstCells_none w.drew i.size 0 0 cap
    | some a => exact run_firstCells_some w.drew i.size 0 a 0 cap [] (by simp) (by simp)
   ·refine run_firstCells_some w.drew i.size len ⟨(g.loc id).1, (g.loc id).2, none⟩ len cap olds (by rw [ho1, hcl, hisz, hsz]) (fun j u hj => ?_)
    have hlt := (List.getElem?_eq_some_iff.1 hj).1
    obtain ⟨u', p1, p2, _⟩ := ho2 j _ (List.getElem?_eq_getElem (by omega))
    rw [hj] at p1
    injection p1 with p1
    subst p1
    rw [World.cell?_drew, Addr.add_lit]
    exact p2
  have hrun := run_append_grow_src (P := C.P) w t tx ty el i z hu hi hz a len cap olds hold rx more.length news hsrc (by omega) (by omega) hfit
  obtain ⟨g', fr, hnx, hst⟩ := arr_grow (d := d) h (el := el) (cap := grownCap w (len + more.length) cap el) (zs := Builtin.zeroCells z.cells (grownCap w (len + more.length) cap el - (len + more.length))) hs hd h0 hS hcl ho1 ho2 hln hn.len (news_one hn) (grownCap_ge w _ _ _) (by rw [size_zeroCells, hzs, hsz])
  exact ⟨_, _, g', _, hrun, fr, hnx, hst⟩
 have keep : ∀ {rv}, more.length = 0 → (Builtin.append_ #[t, tx] ty #[rs, rx]).run C.P w = .ok rv w → Top g w d (.arr .tail id 0 len sz) rv → ∃ rv w' g' id', (Builtin.append_ #[t, tx] ty #[rs, rx]).run C.P w = .ok rv w' ∧ Fr g g' w w' ∧ (S.set id none) id' = none ∧
   St n g' w' ((e.put s (e s).bare).put d (.arr .tail id' 0 (len + more.length) sz)) ((S.set id none).set id' (some (cells.map PV.bare ++ bareAll more))) (tmps.setIfInBounds d rv) := by
  intro rv hm hrun ht
  have hme : more = [] := List.eq_nil_of_length_eq_zero hm
  subst hme
  refine ⟨_, w, g, id, hrun, Fr.refl g w, by simp [Store.set], ?_⟩
  rw [hset]
  have h1 := (h.bareSlot s).put hd ht
  refine ⟨h1.size, h1.slots, h1.beyond, fun id' cells' hi => ?_, h1.new⟩
  simp only [Store.set] at hi
  split at hi
  ·rename_i heq
   subst heq
   injection hi with hi
   subst hi
   have := (h.objs _ _ hS).bareCells
   simpa [bareAll] using this
  ·exact h.objs id' cells' hi
 cases htop.rel with
 | arr0 f id off sz a cap ha =>
  cases a with
  | none =>
   have hc0 := ha rfl
   subst hc0
   by_cases hm : more.length = 0
   ·have hme : more = [] := List.eq_nil_of_length_eq_zero hm
    subst hme
    have hnews : news = [] := List.eq_nil_of_length_eq_zero (by rw [hln]; simp)
    subst hnews
    have hl0 : ∀ w', (Builtin.lenOf rx).run C.P w' = .ok 0 w' := hsrc.len
    have hc0 : (Builtin.firstCells i.size 0 rx).run C.P w = .ok #[] w := hsrc.cells
    have hrun : (Builtin.append_ #[t, tx] ty #[.slice none 0 0, rx]).run C.P w = .ok (.slice none 0 0) w := by
     rcases hsrc.kind with ⟨e', hk⟩ | hk <;> simp [Builtin.append_, run_underlying hu, run_underlying hk, sizeOf, typeInfo, hi, hl0, hc0]
    exact keep rfl hrun ⟨.arr0 _ _ _ _ _ _ (fun _ => rfl), by simp [Tail]⟩
   ·exact grow none 0 rfl (by omega) (.inl rfl)
  | some a =>
   by_cases hroom : 0 + more.length ≤ cap
   ·by_cases hz0 : cap = 0
    ·subst hz0
     have hm0 : more = [] := List.eq_nil_of_length_eq_zero (by omega)
     subst hm0
     have hnews : news = [] := List.eq_nil_of_length_eq_zero (by rw [hln]; simp)
     subst hnews
     have hrun : (Builtin.append_ #[t, tx] ty #[.slice (some a) 0 0, rx]).run C.P w = .ok (.slice (some a) 0 0) w := by
      have hl0 : ∀ w', (Builtin.lenOf rx).run C.P w' = .ok 0 w' := hsrc.len
      have hc0 : (Builtin.firstCells i.size 0 rx).run C.P w = .ok #[] w := hsrc.cells
      have hst : ∀ a : Addr, (storeCells a [] 0).run C.P w = .ok () w := by
       intro a
       unfold storeCells
       rfl
      rcases hsrc.kind with ⟨e', hk⟩ | hk <;> simp [Builtin.append_, run_underlying hu, run_underlying hk, sizeOf, typeInfo, hi, hl0, hc0, hst]
     have htl := htop.tail
     refine keep rfl hrun ⟨.arr0 _ _ _ _ _ _ (by simp), ?_⟩
     simp only [Tail] at htl ⊢
     exact ⟨htl.1, fun k k1 k2 => by simp at k2⟩
    ·obtain ⟨b, o', sp⟩ := a
     have hsp : sp = none := by
      have := htop.tail
      simp only [Tail] at this
      rcases this.1.1 with e1 | e1
      ·rcases Nat.mul_eq_zero.1 e1 with e1 | e1
       ·exact absurd e1 hz0
       ·omega
      ·exact e1
     subst hsp
     obtain ⟨a1, a2, g', fr, hst⟩ := arr_room h (more := more) hs hd h0 hes hS hcl hrs hroom hln hn.len (news_one hn)
     have hrun := run_append_room_src (P := C.P) w t tx ty el i hu hi b o' 0 cap rx more.length news hsrc hroom (by rw [hisz, hsz]; exact a1) (by rw [hisz, hsz]; exact a2)
     rw [hisz, hsz] at hrun
     exact ⟨_, _, g', _, hrun, fr, by simp [Store.set], hst⟩
   ·exact grow (some a) cap rfl hroom (.inl rfl)
 | @arr _ _ _ _ _ cap hid hcap hkn =>
  by_cases hroom : len + more.length ≤ cap
  ·obtain ⟨a1, a2, g', fr, hst⟩ := arr_room h (more := more) hs hd h0 hes hS hcl hrs hroom hln hn.len (news_one hn)
   have hrun := run_append_room_src (P := C.P) w t tx ty el i hu hi (g.loc id).1 ((g.loc id).2 + 0) len cap rx more.length news hsrc hroom (by rw [hisz, hsz]; exact a1) (by rw [hisz, hsz]; exact a2)
   rw [hisz, hsz] at hrun
   exact ⟨_, _, g', _, hrun, fr, by simp [Store.set], hst⟩
  ·exact grow _ cap rfl hroom (.inr rfl)

/-- An empty slice becomes an array of one's own. -/
theorem St.toArr {n : Nat} {tmps : Array Value} (h : St n g w e S tmps) {s sz : Nat} (hs : s < n) (hes : e s = .sl .tail sz []) :
  ∃ g', Fr g g' w w ∧ St n g' w (e.put s (.arr .tail g.nxt 0 0 sz)) (S.set g.nxt (some [])) tmps := by
 have htop := h.slots s hs
 rw [hes] at htop
 obtain ⟨a, cap, hrv, ha⟩ : ∃ a cap, tmps.getD s Go.undef = .slice a 0 cap ∧ (a = none → cap = 0) := by
  rcases sl_parts htop.rel with ⟨h1, _⟩ | ⟨b, o', sp, cap, h1, _, _⟩
  ·exact ⟨none, 0, h1, fun _ => rfl⟩
  ·exact ⟨_, cap, h1, by simp⟩
 have key : ∀ b o, (∀ a', a = some a' → b = a'.block ∧ o = a'.off) → ∃ g', Fr g g' w w ∧ St n g' w (e.put s (.arr .tail g.nxt 0 0 sz)) (S.set g.nxt (some [])) tmps := by
  intro b o hbo
  have h1 := h.one b o
  refine ⟨_, Fr.one g w b o, h1.size, fun t ht => ?_, fun t ht => ?_, h1.objs, h1.new⟩
  ·simp only [Env.put]
   split
   ·rename_i heq
    subst heq
    rw [hrv]
    refine ⟨.arr0 _ _ _ _ _ _ ha, ?_⟩
    cases a with
    | none => simp [Tail]
    | some a =>
     have htl := (h1.slots t ht).tail
     rw [hes, hrv] at htl
     simp only [Tail, List.length_nil, Nat.zero_mul] at htl ⊢
     refine ⟨⟨htl.1, by simp [Gh.one], by simp [Gh.one], ?_⟩, htl.2⟩
     obtain ⟨e1, e2⟩ := hbo a rfl
     simp [Gh.one, e1, e2]
   ·exact h1.slots t ht
  ·simp only [Env.put]
   rw [if_neg (by omega)]
   exact h1.beyond t ht
 cases a with
 | none => exact key 0 0 (by simp)
 | some a => exact key a.block a.off (by rintro a' h; injection h with h; subst h; exact ⟨rfl, rfl⟩)

theorem vAppArr_sound {ts : Array TypeId} {s d : Nat} {x : Operand} (ho : o.op = .call ⟨.builtin .append, #[.tmp s, x], ts⟩) (hd : o.dst = some d) (h : St X.n g w e S a.tmps) (hv : vAppArr C X s ts.toList (vw S (ev x e)) d K e S (e s)) (hR : Goes X g w a K R) : o.wp C.P a w R Q := by
 have run : ∀ {rv : Value} {w' : World}, (Builtin.append_ ts o.type #[a.eval (.tmp s), a.eval x]).run C.P w = .ok rv w' → (execOp a.eval o).run C.P w = .ok (.value rv) w' := by
  intro rv w' hrun
  simp [execOp, ho, resolve, invoke, builtin, hrun]
 generalize hes : e s = p at hv
 unfold vAppArr at hv
 split at hv
 ·rename_i id len sz
  split at hv
  ·rename_i cells sz' rows more hS hp
   split at hv
   ·rename_i hc
    obtain ⟨t, tx, el, te, rfl, hu, hte, hsz, h0, hsl, hb, hl, news, hn⟩ := vw_src h hp (h.ev x)
    injection hsl with _ e1 e2
    subst e1; subst e2
    rw [List.length_replicate] at hb hl
    obtain ⟨rv, w', g', id', hrun, fr, hnx, hst⟩ := append_arr h (ty := o.type) hu hte hsz h0 hb hl hn hc.1 hc.2.1 hes hS hc.2.2
    unfold Oper.wp
    rw [run hrun, Oper.upon_value, hd]
    have hv := hv id' hnx
    exact hR _ _ _ _ _ hv (by rw [put_tmps]; exact hst) (put_defers _ _ _) fr
   ·exact hv.elim
  ·exact hv.elim
 ·rename_i sz
  split at hv
  ·rename_i sz' rows more hp
   split at hv
   ·rename_i hc
    obtain ⟨t, tx, el, te, rfl, hu, hte, hsz, h0, hsl, hb, hl, news, hn⟩ := vw_src h hp (h.ev x)
    injection hsl with _ e1 e2
    subst e1; subst e2
    obtain ⟨g1, fr1, hst1⟩ := h.toArr hc.2 hes
    have hn1 : SrcOf C g1 w sz tx (a.eval x) more news := ⟨hn.src, hn.len, fun j c k v hj hk => by obtain ⟨u, q1, q2⟩ := hn.rel j c k v hj hk; exact ⟨u, q1, q2.mono fr1⟩⟩
    obtain ⟨rv, w', g', id', hrun, fr, hnx, hst⟩ := append_arr hst1 (ty := o.type) (len := 0) (cells := []) (id := g.nxt) hu hte hsz h0 (by simpa using hb) (by simpa using hl) hn1 hc.1 hc.2 (by simp [Env.put]) (by simp [Store.set]) (by simp)
    have hsn : S g.nxt = none := h.nxtNone
    have e3 : ((S.set g.nxt (some [])).set g.nxt none) = S := by
     funext i; simp only [Store.set]; split
     ·rename_i hi; subst hi; exact hsn.symm
     ·rfl
    rw [e3] at hnx hst
    unfold Oper.wp
    rw [run hrun, Oper.upon_value, hd]
    refine hR _ _ _ _ _ (hv id' hnx) ?_ (put_defers _ _ _) (fr1.trans fr)
    rw [put_tmps]
    have e4 : ((e.put s (.arr .tail g.nxt 0 0 sz)).put s ((e.put s (.arr .tail g.nxt 0 0 sz)) s).bare) = e.put s (.arr .no g.nxt 0 0 sz) := by
     funext i; simp only [Env.put, if_true]; split <;> rfl
    rw [e4] at hst
    have hbare : (PV.sl .tail sz []).bare = .sl .no sz [] := rfl
    refine ⟨hst.size, fun t ht => ?_, fun t ht => ?_, ?_, hst.new⟩
    ·have := hst.slots t ht
     simp only [Env.put] at this ⊢
     split
     ·rename_i h1; rw [if_pos h1] at this; simpa using this
     ·rename_i h1
      rw [if_neg h1] at this
      split
      ·rename_i h2
       subst h2
       rw [getD_set_ne _ _ _ _ _ h1]
       have h3 := ((h.slots t ht).rel.mono fr1).mono fr
       rw [hes] at h3 ⊢
       exact ⟨h3.bare, Tail.bare _ _ _ _ _⟩
      ·rename_i h2; rw [if_neg h2] at this; exact this
    ·have := hst.beyond t ht
     simp only [Env.put] at this ⊢
     have h2 : @LT.lt Nat _ s X.n := hc.2
     have h3 : @LT.lt Nat _ d X.n := hc.1
     rw [if_neg (by omega), if_neg (by omega)] at this ⊢
     exact this
    ·intro id'' cells'' hi
     exact hst.objs id'' cells'' (by simpa [bareAll] using hi)
   ·exact hv.elim
  ·exact hv.elim
 ·exact hv.elim

theorem vAppend_sound {xs : Array Operand} {ts : Array TypeId} (ho : o.op = .call ⟨.builtin .append, xs, ts⟩) (h : St X.n g w e S a.tmps) (hv : vAppend C X xs.toList ts o.dst K e S) (hR : Goes X g w a K R) : o.wp C.P a w R Q := by
 unfold vAppend at hv
 have run : ∀ {x y : Operand} {rv : Value} {w' : World}, xs.toList = [x, y] → (Builtin.append_ ts o.type #[a.eval x, a.eval y]).run C.P w = .ok rv w' → (execOp a.eval o).run C.P w = .ok (.value rv) w' := by
  intro x y rv w' hxs hrun
  have hx : xs = #[x, y] := by
   apply Array.ext'
   simpa using hxs
  subst hx
  simp [execOp, ho, resolve, invoke, builtin, hrun]
 split at hv
 ·rename_i d s x hd hxs
  split at hv
  ·have hxs' : xs = #[.tmp s, x] := by
    apply Array.ext'
    simpa using hxs
   exact vAppArr_sound (by rw [ho, hxs']) hd h hv hR
  split at hv
  ·rename_i sz rows more hp
   split at hv
   ·rename_i hc
    obtain ⟨t, tx, el, te, rfl, hu, hte, hsz, h0, hes, hb, hl, news, hn⟩ := vw_src h hp (h.ev x)
    obtain ⟨rv, w', g', hrun, fr, hst⟩ := append_run h (ty := o.type) (rs := a.eval (.tmp s)) hu hte hsz h0 hb hl hn hc.1 (some s) ⟨hc.2, hes, rfl⟩
    unfold Oper.wp
    rw [run hxs hrun, Oper.upon_value, hd]
    exact hR _ _ _ _ _ hv (by rw [put_tmps]; exact hst) (put_defers _ _ _) fr
   ·exact hv.elim
  ·exact hv.elim
 ·rename_i d x hd hxs
  split at hv
  ·rename_i sz rows more hp
   split at hv
   ·rename_i hdn
    obtain ⟨t, tx, el, te, rfl, hu, hte, hsz, h0, hes, hb, hl, news, hn⟩ := vw_src h hp (h.ev x)
    have hrows : rows = [] := by
     simp only [List.getElem?_toArray, List.getElem?_cons_zero, Option.elim_some] at hes
     unfold nilOf at hes
     repeat' split at hes
     all_goals first | (injection hes with _ _ hr; exact hr.symm) | cases hes
    subst hrows
    obtain ⟨rv, w', g', hrun, fr, hst⟩ := append_run h (ty := o.type) (rs := .slice none 0 0) hu hte hsz h0 hb hl hn hdn none ⟨rfl, rfl⟩
    unfold Oper.wp
    rw [run hxs hrun, Oper.upon_value, hd]
    exact hR _ _ _ _ _ hv (by rw [put_tmps]; exact hst) (put_defers _ _ _) fr
   ·exact hv.elim
  ·exact hv.elim
 ·exact hv.elim
end
end Go.VL

/- VL, part 14: calls. -/
namespace Go.VL
open Go

section
variable {C : Ctx} {X : Fx} {o : Oper} {g : Gh} {w : World} {a : Act} {e : Env} {S : Store} {K : Env → Store → Prop} {R : Act → World → Prop} {Q : Exit → Act → World → Prop}

def toCallee (mv : Bool) (xs : List Operand) : Lab → Lab
 | .slot t => if mv then (match argPos xs t with | some j => .slot j | none => .foreign) else .foreign
 | l => l
def Gh.callee (g : Gh) (mv : Bool) (xs : List Operand) : Gh := { g with lab := fun b o => toCallee mv xs (g.lab b o) }
def fromCallee (d : Option Nat) : Lab → Lab
 | .slot _ => (match d with | some d => .slot d | none => .frozen)
 | l => l
def Gh.back (g gc g' : Gh) (d : Option Nat) : Gh := { g' with lab := fun b o => if gc.lab b o = .foreign then g.lab b o else fromCallee d (g'.lab b o) }

theorem toCallee_frozen {mv : Bool} {xs : List Operand} {l : Lab} : toCallee mv xs l = .frozen ↔ l = .frozen := by
 cases l <;> simp only [toCallee, reduceCtorEq]
 split
 ·split <;> simp
 ·simp
theorem toCallee_own {mv : Bool} {xs : List Operand} {l : Lab} (h : (toCallee mv xs l).own) : l.own := by
 cases l <;> simp [toCallee, Lab.own] at h ⊢
theorem Rel.callee {mv : Bool} {xs : List Operand} {v : PV} {rv : Value} (h : Rel g w v rv) : Rel (g.callee mv xs) w v rv :=
 Rel.same (g := g) (g' := g.callee mv xs) (fun b o hl => toCallee_frozen.2 hl) (fun _ _ _ _ hc => hc) (fun _ _ => rfl) (Nat.le_refl _) (fun _ h => h) h

theorem cargs_length (C : Ctx) (mv : Bool) : ∀ (xs : List Operand) (ts : List TypeId) (e : Env), (cargs C mv xs ts e).length = xs.length
 | [], _, _ => rfl
 | x :: xs, t :: ts, e => by simp [cargs, cargs_length C mv xs ts e]
 | x :: xs, [], e => by simp [cargs, cargs_length C mv xs [] e]
theorem cargs_get (C : Ctx) (mv : Bool) : ∀ (xs : List Operand) (ts : List TypeId) (e : Env) (j : Nat) (x : Operand), xs[j]? = some x → ∃ t, (cargs C mv xs ts e)[j]? = some (carg C mv t x e)
 | [], _, _, j, x, h => by simp at h
 | y :: xs, t :: ts, e, 0, x, h => by simp at h; subst h; exact ⟨t, rfl⟩
 | y :: xs, t :: ts, e, j + 1, x, h => by
  obtain ⟨t', ht⟩ := cargs_get C mv xs ts e j x (by simpa using h)
  exact ⟨t', by simpa [cargs] using ht⟩
 | y :: xs, [], e, 0, x, h => by simp at h; subst h; exact ⟨0, rfl⟩
 | y :: xs, [], e, j + 1, x, h => by
  obtain ⟨t', ht⟩ := cargs_get C mv xs [] e j x (by simpa using h)
  exact ⟨t', by simpa [cargs] using ht⟩

theorem argPos_some : ∀ (xs : List Operand) (t j : Nat), xs[j]? = some (.tmp t) → (argPos xs t).isSome = true
 | [], t, j, h => by simp at h
 | x :: xs, t, 0, h => by
  simp at h; subst h
  simp [argPos]
 | x :: xs, t, j + 1, h => by
  have ih := argPos_some xs t j (by simpa using h)
  cases x <;> simp only [argPos] <;> (try split) <;> simp [ih]
theorem apart_pos : ∀ (xs : List Operand) (t j : Nat), apart xs = true → xs[j]? = some (.tmp t) → argPos xs t = some j
 | [], t, j, _, h => by simp at h
 | x :: xs, t, 0, ha, h => by
  simp at h; subst h
  simp [argPos]
 | x :: xs, t, j + 1, ha, h => by
  have h' : xs[j]? = some (.tmp t) := by simpa using h
  cases x with
  | tmp s =>
   simp only [apart, Bool.and_eq_true, Option.isNone_iff_eq_none] at ha
   have ih := apart_pos xs t j ha.2 h'
   have hne : ¬ s = t := fun e1 => by
    subst e1
    have := argPos_some xs s j h'
    rw [ha.1] at this
    cases this
   simp only [argPos]
   rw [if_neg hne, ih]
   rfl
  | const v => simp only [argPos, apart] at ha ⊢; rw [apart_pos xs t j ha h']; rfl
  | global v => simp only [argPos, apart] at ha ⊢; rw [apart_pos xs t j ha h']; rfl
  | func v => simp only [argPos, apart] at ha ⊢; rw [apart_pos xs t j ha h']; rfl

theorem Tail.relab {g' : Gh} {t t' : Nat} {v : PV} {rv : Value} (hk : ∀ b o, g.lab b o = .slot t → g'.lab b o = .slot t') (h : Tail g w t v rv) (hn : g'.nxt = g.nxt := by rfl) (hlo : g'.loc = g.loc := by rfl) (hkd : g'.knd = g.knd := by rfl) : Tail g' w t' v rv := by
 unfold Tail at *
 split at h
 ·exact ⟨h.1, fun k h1 h2 => ⟨hk _ _ (h.2 k h1 h2).1, (h.2 k h1 h2).2⟩⟩
 ·exact ⟨by rw [hn, hlo, hkd]; exact h.1, fun k h1 h2 => ⟨hk _ _ (h.2 k h1 h2).1, (h.2 k h1 h2).2⟩⟩
 ·exact ⟨fun o => hk _ _ (h.1 o), h.2⟩
 ·exact ⟨fun o => hk _ _ (h.1 o), h.2⟩
 ·exact ⟨fun o => hk _ _ (h.1 o), by rw [hn, hlo, hkd]; exact h.2⟩
 ·exact ⟨h.1, fun k h1 => ⟨hk _ _ (h.2 k h1).1, (h.2 k h1).2⟩⟩
 ·trivial

theorem opd_tail (h : St X.n g w e S a.tmps) (t : TypeId) (x : Operand) (d : Nat) (gg : Gh) : Tail gg w d (opd C t x e) (a.eval x) := by
 unfold opd
 split
 ·exact (nilOf_top (g := gg) (w := w) C t d).tail
 ·exact Tail.bare _ _ _ _ _
 ·rename_i h1 h2
  cases x with
  | tmp s => exact absurd rfl (h2 s)
  | const v => exact (pvc_top (g := gg) (w := w) v d).tail
  | global q => simp [ev, Tail]
  | func f => simp [ev, Tail]

theorem St.enter (h : St X.n g w e S a.tmps) (mv : Bool) (xs : List Operand) (ts : List TypeId) (ha : mv = true → apart xs = true) :
  St (cargs C mv xs ts e).length (g.callee mv xs) w (argEnv (cargs C mv xs ts e)) S (xs.map a.eval).toArray where
 size := by simp [cargs_length]
 slots j hj := by
  rw [cargs_length] at hj
  have hx : xs[j]? = some xs[j] := List.getElem?_eq_getElem hj
  obtain ⟨t, ht⟩ := cargs_get C mv xs ts e j _ hx
  have e1 : argEnv (cargs C mv xs ts e) j = carg C mv t xs[j] e := by
   simp only [argEnv, List.getD_eq_getElem?_getD, ht]
   rfl
  have e2 : (xs.map a.eval).toArray.getD j Go.undef = a.eval xs[j] := by
   simp [Array.getD, hj]
  rw [e1, e2]
  generalize hxj : xs[j] = x at *
  unfold carg
  split
  ·rename_i s
   have htop := h.top s
   refine ⟨htop.rel.callee, htop.tail.relab fun b o hl => ?_⟩
   simp only [Gh.callee, hl, toCallee, if_true]
   rw [apart_pos xs s j (ha rfl) hx]
  ·exact ⟨.nils, by simp [Tail]⟩
  ·exact ⟨(opd_top h t x 0).rel.callee, opd_tail h t x j _⟩
 beyond j hj := by
  rw [cargs_length] at hj
  simp only [argEnv, List.getD_eq_getElem?_getD]
  rw [List.getElem?_eq_none (by rw [cargs_length]; exact hj)]
  rfl
 objs id cells hi := by
  have hob := h.objs id cells hi
  refine ⟨hob.lt, fun hn k v hk => ?_, fun hn => (hob.mp hn).map rfl (fun b o hl => by show toCallee mv xs (g.lab b o) = _; rw [hl]; rfl) (fun _ _ _ _ hh => hh) (fun _ _ hr => hr.callee)⟩
  obtain ⟨h1, h2, rv, h3, h4, h5, h6⟩ := hob.cell hn k v hk
  exact ⟨by show toCallee mv xs (g.lab (g.loc id).1 ((g.loc id).2 + k)) = _; rw [h1]; rfl, h2, rv, h3, h4, h5.callee, h6.map fun b o ⟨c1, c2⟩ => ⟨by show toCallee mv xs (g.lab b o) = _; rw [c1]; rfl, c2⟩⟩
 new b o hb := by
  show toCallee mv xs (g.lab b o) = _
  rw [h.new b o hb]; rfl

theorem back_fr {g' : Gh} {w' : World} {mv : Bool} {xs : List Operand} (fr : Fr (g.callee mv xs) g' w w') (d : Option Nat) : Fr g (g.back (g.callee mv xs) g' d) w w' where
 os := fr.os
 tape := fr.tape
 output := fr.output
 size := fr.size
 frozen b o hl := by
  have h1 : (g.callee mv xs).lab b o = .frozen := toCallee_frozen.2 hl
  simp only [Gh.back]
  rw [if_neg (by rw [h1]; simp), fr.frozen b o h1]
  rfl
 foreign b o hl := by
  have h1 : (g.callee mv xs).lab b o = .foreign := by show toCallee mv xs (g.lab b o) = _; rw [hl]; rfl
  simp only [Gh.back]
  rw [if_pos h1]
  exact hl
 own b o hb hl := by
  simp only [Gh.back] at hl
  split at hl
  ·exact hl
  ·have : (g'.lab b o).own := by
    cases hg : g'.lab b o <;> rw [hg] at hl <;> simp only [fromCallee] at hl <;> first | exact hl | trivial
   exact toCallee_own (fr.own b o hb this)
 kept b o hb hl := fr.kept b o hb (fun h => hl (toCallee_own h))
 mark := fr.mark
 some := fr.some
 block b hb hl := fr.block b hb (fun o h => hl o (toCallee_own h))
 loc := fr.loc
 nxt := fr.nxt
 knd := fr.knd

theorem back_keep {g' : Gh} {w' : World} {mv : Bool} {xs : List Operand} (fr : Fr (g.callee mv xs) g' w w') (d : Option Nat) {b o : Nat} {l : Lab} (hl : g'.lab b o = l) (hf : l ≠ .foreign) : (g.back (g.callee mv xs) g' d).lab b o = fromCallee d l := by
 simp only [Gh.back]
 rw [if_neg (fun h => hf (hl ▸ fr.foreign b o h)), hl]

theorem misc_same {b : Nat} {x y : Obj} (hx : w.heap[b]? = some x) (nx : ∀ c t f, x ≠ .cells c t f) (ny : ∀ c t f, y ≠ .cells c t f) (ad : Addr) :
  World.cell? { w with heap := w.heap.setIfInBounds b y } ad = w.cell? ad ∧ World.frozen? { w with heap := w.heap.setIfInBounds b y } ad = w.frozen? ad := by
 obtain ⟨h1, h2⟩ := MapKept.heap_set (o' := y) hx
 by_cases hb : ad.block = b
 ·subst hb
  constructor
  ·unfold World.cell?
   dsimp only
   rw [h1, hx]
   cases x <;> first | exact absurd rfl (nx _ _ _) | (cases y <;> first | exact absurd rfl (ny _ _ _) | rfl)
  ·unfold World.frozen?
   dsimp only
   rw [h1, hx]
   cases x <;> first | exact absurd rfl (nx _ _ _) | (cases y <;> first | exact absurd rfl (ny _ _ _) | rfl)
 ·constructor
  ·unfold World.cell?
   dsimp only
   rw [h2 _ hb]
  ·unfold World.frozen?
   dsimp only
   rw [h2 _ hb]
theorem Fr.misc {b : Nat} {x y : Obj} (hx : w.heap[b]? = Option.some x) (nx : ∀ c t f, x ≠ .cells c t f) (ny : ∀ c t f, y ≠ .cells c t f) (hl : (g.lab b 0).own) : Fr g g w { w with heap := w.heap.setIfInBounds b y } where
 os := rfl
 tape := rfl
 output := rfl
 size := by simp
 frozen _ _ h := h
 foreign _ _ h := h
 own _ _ _ h := h
 kept b' o' _ _ := (misc_same hx nx ny _).1
 mark b' o' _ := (misc_same hx nx ny _).2
 some b' o' h := by rw [(misc_same hx nx ny _).1]; exact h
 block b' _ h := (MapKept.heap_set (o' := y) hx).2 b' (fun e => h 0 (by rw [e]; exact hl))
 loc _ _ := rfl
 nxt := Nat.le_refl _
 knd _ _ := rfl
theorem St.misc {n : Nat} {tmps : Array Value} (h : St n g w e S tmps) {s b : Nat} (hs : s < n) {x y : Obj} (hx : w.heap[b]? = some x) (nx : ∀ c t f, x ≠ .cells c t f) (ny : ∀ c t f, y ≠ .cells c t f) (hl : ∀ o, g.lab b o = .slot s)
  {v : PV} (hv : Top g { w with heap := w.heap.setIfInBounds b y } s v (tmps.getD s Go.undef)) : St n g { w with heap := w.heap.setIfInBounds b y } (e.put s v) S tmps := by
 have fr := Fr.misc (g := g) hx nx ny (by rw [hl 0]; trivial)
 have cs := misc_same (y := y) hx nx ny
 have hp := (MapKept.heap_set (o' := y) hx).2
 refine ⟨h.size, fun t ht => ?_, fun t ht => ?_, fun id cells hi => ?_, fun b' o' hb => ?_⟩
 ·simp only [Env.put]
  by_cases e1 : t = s
  ·subst e1
   rw [if_pos rfl]
   exact hv
  ·rw [if_neg e1]
   have htt := h.slots t ht
   refine ⟨htt.rel.mono fr, ?_⟩
   have other : ∀ b', (∀ o, g.lab b' o = .slot t) → b' ≠ b := fun b' hb' e2 => by
    have := hb' 0
    rw [e2, hl 0] at this
    injection this with this
    exact e1 this.symm
   have htl := htt.tail
   unfold Tail at *
   split at htl
   ·exact ⟨htl.1, fun k h1 h2 => by rw [(cs _).1, (cs _).2]; exact htl.2 k h1 h2⟩
   ·exact ⟨htl.1, fun k h1 h2 => by rw [(cs _).1, (cs _).2]; exact htl.2 k h1 h2⟩
   ·exact ⟨htl.1, (hp _ (other _ htl.1)).trans htl.2⟩
   ·obtain ⟨h1, es, cl, h2, h3⟩ := htl
    exact ⟨h1, es, cl, (hp _ (other _ h1)).trans h2, h3⟩
   ·obtain ⟨h1, h2, h4, h5⟩ := htl
    exact ⟨h1, h2, (hp _ (other _ h1)).trans h4, h5⟩
   ·exact ⟨⟨htl.1.1, fr.noMark htl.1.2⟩, fun k h1 => by rw [(cs _).1, (cs _).2]; exact htl.2 k h1⟩
   ·trivial
 ·simp only [Env.put]
  rw [if_neg (by omega)]
  exact h.beyond t ht
 ·have hob := h.objs id cells hi
  refine ⟨hob.lt, fun hn k v hk => ?_, fun hn => (hob.mp hn).map rfl (fun _ _ hl => hl) (fun b' hb' _ _ hh => (hp _ (fun e2 => by have := hb' 0; rw [e2, hl 0] at this; cases this)).trans hh) (fun _ _ hr => hr.mono fr)⟩
  obtain ⟨q1, q2, rv, q3, q4, q5, q6⟩ := hob.cell hn k v hk
  exact ⟨q1, (cs _).2.trans q2, rv, (cs _).1.trans q3, q4, q5.mono fr, q6.map fun b o ⟨c1, c2, c3⟩ => ⟨c1, by rw [(cs _).1]; exact c2, (cs _).2.trans c3⟩⟩
 ·refine h.new b' o' ?_
  simpa using hb

theorem mapS_some {P : Program} {t : TypeId} {z : Value} (h : mapS P t = some z) : ∃ k el i, P.underlying t = some (.map k el) ∧ P.underlying k = some .string ∧ P.info? el = some i ∧ i.zero = some z := by
 unfold mapS at h
 split at h
 ·rename_i k el hu
  split at h
  ·rename_i hk
   cases hi : P.info? el with
   | none => rw [hi] at h; cases h
   | some i => rw [hi] at h; exact ⟨k, el, i, hu, hk, hi, h⟩
  ·cases h
 ·cases h
/-! ### maps that are objects -/
theorem rel_pvZ (v : Value) : Rel g w (pvZ v) v ∧ (pvZ v).bare = pvZ v := by
 have one : ∀ v : Value, Rel g w (pvZ1 v) v ∧ (pvZ1 v).bare = pvZ1 v := by
  intro v
  unfold pvZ1
  split
  ·exact ⟨.bool _, rfl⟩
  ·exact ⟨.int _ _, rfl⟩
  ·exact ⟨.str _, rfl⟩
  ·exact ⟨.nilm, rfl⟩
  ·exact ⟨.undef _, rfl⟩
 unfold pvZ
 split
 ·rename_i cs
  split
  ·rename_i hc
   refine ⟨.agg (by simp) (fun k rv hk => ?_) (fun k u rv hu hrv => ?_), rfl⟩
   ·exact List.all_eq_true.1 hc rv (by rw [← Array.getElem?_toList] at hk; exact List.mem_of_getElem? hk)
   ·simp only [List.getElem?_map, Array.getElem?_toList, hrv, Option.map_some, Option.some.injEq] at hu
    rw [← hu]
    exact (one rv).1
  ·exact ⟨.undef _, rfl⟩
 ·exact one v
theorem findNow_idx (k : ByteArray) : ∀ (es : List MapEntry) (ks : List (Nat × ByteArray)) (i : Nat), es.map (fun e => (e.born, e.key)) = ks.map (fun p => (p.1, Value.string p.2)) →
  (Instr.findNow .string (.string k) es i = some none ∧ idxM k ks i = none) ∨
  ∃ j e, Instr.findNow .string (.string k) es i = some (some (i + j, e.val)) ∧ es[j]? = some e ∧ e.key = .string k ∧ idxM k ks i = some (i + j)
 | [], [], _, _ => .inl ⟨rfl, rfl⟩
 | [], _ :: _, _, h => by simp at h
 | _ :: _, [], _, h => by simp at h
 | e :: es, p :: L, i, h => by
  simp only [List.map_cons, List.cons.injEq, Prod.mk.injEq] at h
  obtain ⟨⟨_, h1⟩, h3⟩ := h
  have hs : Instr.sameNow .string (.string k) e.key = some (k == p.2) := by rw [h1]; rfl
  cases hk : k == p.2 with
  | true =>
   have hkp := (MapKept.bytes_beq k p.2).1 hk
   refine .inr ⟨0, e, ?_, rfl, by rw [h1, hkp], ?_⟩
   ·rw [Instr.findNow, hs, hk]; rfl
   ·simp only [idxM, hk, if_true]; rfl
  | false =>
   have hf : Instr.findNow .string (.string k) (e :: es) i = Instr.findNow .string (.string k) es (i + 1) := by rw [Instr.findNow, hs, hk]
   rcases findNow_idx k es L (i + 1) h3 with ⟨a1, a2⟩ | ⟨j, e', a1, a2, a3, a4⟩
   ·refine .inl ⟨hf.trans a1, ?_⟩
    simp only [idxM, hk]; exact a2
   ·refine .inr ⟨j + 1, e', ?_, by simpa using a2, a3, ?_⟩
    ·rw [hf, a1, show i + 1 + j = i + (j + 1) by omega]
    ·simp only [idxM, hk]; rw [show i + (j + 1) = i + 1 + j by omega]; exact a4
structure MObj (g : Gh) (w : World) (id cl : Nat) (ks : List (Nat × ByteArray)) (vs : List PV) (es : Array MapEntry) : Prop where
 lab : ∀ o, g.lab (g.loc id).1 o = .obj id
 heap : w.heap[(g.loc id).1]? = some (.map es cl)
 keys : es.toList.map (fun e => (e.born, e.key)) = ks.map (fun k => (k.1, Value.string k.2))
 len : vs.length = ks.length
 vals : ∀ (i : Nat) (e : MapEntry) (v : PV), es[i]? = some e → vs[i]? = some v → Rel g w v e.val ∧ v.bare = v
theorem MObj.size {id cl : Nat} {ks : List (Nat × ByteArray)} {vs : List PV} {es : Array MapEntry} (m : MObj g w id cl ks vs es) : es.size = ks.length := by
 have := congrArg List.length m.keys
 simpa using this
theorem mref_obj (h : St X.n g w e S a.tmps) {x : Operand} {id cl : Nat} {ks : List (Nat × ByteArray)} {vs : List PV} (hx : ev x e = .mref id) (hS : S id = some [.mcon cl ks vs]) :
  (a.eval x = .map (some (g.loc id).1) ∧ id < g.nxt ∧ g.knd id = true) ∧ ∃ es, MObj g w id cl ks vs es := by
 have hr := h.ev x
 rw [hx] at hr
 generalize a.eval x = q at hr ⊢
 cases hr with
 | mref hn hk =>
  obtain ⟨cl', ks', vs', es, h1, h2, h3, h4, h5, h6⟩ := (h.objs id _ hS).mp hk
  simp only [List.cons.injEq, PV.mcon.injEq, and_true] at h1
  obtain ⟨rfl, rfl, rfl⟩ := h1
  exact ⟨⟨rfl, hn, hk⟩, es, h2, h3, h4, h5, h6⟩
theorem St.miscObj {n : Nat} {tmps : Array Value} (h : St n g w e S tmps) {id cl : Nat} {ks : List (Nat × ByteArray)} {vs : List PV} {es : Array MapEntry} (hn : id < g.nxt) (hk : g.knd id = true) (m : MObj g w id cl ks vs es) {es' : Array MapEntry} {cl' : Nat} {ks' : List (Nat × ByteArray)} {vs' : List PV}
  (hkeys : es'.toList.map (fun e => (e.born, e.key)) = ks'.map (fun k => (k.1, Value.string k.2))) (hlen : vs'.length = ks'.length) (hvals : ∀ (i : Nat) (e : MapEntry) (v : PV), es'[i]? = some e → vs'[i]? = some v → Rel g w v e.val ∧ v.bare = v) :
  Fr g g w { w with heap := w.heap.setIfInBounds (g.loc id).1 (.map es' cl') } ∧ St n g { w with heap := w.heap.setIfInBounds (g.loc id).1 (.map es' cl') } e (S.set id (some [.mcon cl' ks' vs'])) tmps := by
 have hx := m.heap
 have hl := m.lab
 have fr := Fr.misc (g := g) (y := .map es' cl') hx (by simp) (by simp) (by rw [hl 0]; trivial)
 have cs := misc_same (y := .map es' cl') hx (by simp) (by simp)
 have hp := MapKept.heap_set (o' := .map es' cl') hx
 refine ⟨fr, h.size, fun t ht => ?_, h.beyond, fun id' cells hi => ?_, fun b' o' hb => ?_⟩
 ·have htt := h.slots t ht
  refine ⟨htt.rel.mono fr, ?_⟩
  have other : ∀ b', (∀ o, g.lab b' o = .slot t) → b' ≠ (g.loc id).1 := fun b' hb' e2 => by
   have := hb' 0
   rw [e2, hl 0] at this
   cases this
  have htl := htt.tail
  unfold Tail at *
  split at htl
  ·exact ⟨htl.1, fun k h1 h2 => by rw [(cs _).1, (cs _).2]; exact htl.2 k h1 h2⟩
  ·exact ⟨htl.1, fun k h1 h2 => by rw [(cs _).1, (cs _).2]; exact htl.2 k h1 h2⟩
  ·exact ⟨htl.1, (hp.2 _ (other _ htl.1)).trans htl.2⟩
  ·obtain ⟨h1, es, cl, h2, h3⟩ := htl
   exact ⟨h1, es, cl, (hp.2 _ (other _ h1)).trans h2, h3⟩
  ·obtain ⟨h1, h2, h4, h5⟩ := htl
   exact ⟨h1, h2, (hp.2 _ (other _ h1)).trans h4, h5⟩
  ·exact ⟨⟨htl.1.1, fr.noMark htl.1.2⟩, fun k h1 => by rw [(cs _).1, (cs _).2]; exact htl.2 k h1⟩
  ·trivial
 ·simp only [Store.set] at hi
  split at hi
  ·rename_i heq
   subst heq
   injection hi with hi
   subst hi
   exact ⟨hn, fun hf => (by rw [hk] at hf; cases hf), fun _ => ⟨cl', ks', vs', es', rfl, hl, hp.1, hkeys, hlen, fun i e v he hv => ⟨(hvals i e v he hv).1.mono fr, (hvals i e v he hv).2⟩⟩⟩
  ·rename_i hne
   have hob := h.objs id' cells hi
   refine ⟨hob.lt, fun hn k v hk => ?_, fun hn => (hob.mp hn).map rfl (fun _ _ hl => hl) (fun b' hb' _ _ hh => (hp.2 _ (fun e2 => by have h0 := hb' 0; rw [e2, hl 0] at h0; injection h0 with h0; exact hne h0.symm)).trans hh) (fun _ _ hr => hr.mono fr)⟩
   obtain ⟨q1, q2, rv, q3, q4, q5, q6⟩ := hob.cell hn k v hk
   exact ⟨q1, (cs _).2.trans q2, rv, (cs _).1.trans q3, q4, q5.mono fr, q6.map fun b o ⟨c1, c2, c3⟩ => ⟨c1, by rw [(cs _).1]; exact c2, (cs _).2.trans c3⟩⟩
 ·refine h.new b' o' ?_
  simpa using hb

theorem map_eraseIdx' {α β : Type} (f : α → β) : ∀ (l : List α) (j : Nat), (l.eraseIdx j).map f = (l.map f).eraseIdx j
 | [], j => by simp
 | a :: l, 0 => by simp
 | a :: l, j + 1 => by simp [map_eraseIdx' f l j]
theorem vDlO_sound {x y : Operand} {t0 : TypeId} {ts : Array TypeId} (ho : o.op = .call ⟨.builtin .delete, #[x, y], ts⟩) (h : St X.n g w e S a.tmps) (hv : vDlO K e S o.dst ((ts[0]?).bind (mapS C.P)) (ev x e) (ev y e)) (hR : Goes X g w a K R) (hno : ∀ w' : World, True) : o.wp C.P a w R Q := by
 cases hx : ev x e <;> rw [hx] at hv <;> simp only [vDlO] at hv
 rename_i id
 cases hy : ev y e <;> rw [hy] at hv <;> simp only [vDlO] at hv
 rename_i k
 split at hv
 ·rename_i z cl ks vs hz hd hm
  obtain ⟨t, ht0, hz⟩ := Option.bind_eq_some_iff.1 hz
  obtain ⟨kt, el, ti, hu, hk, _, _⟩ := mapS_some hz
  obtain ⟨⟨hmap, hn, hkn⟩, es, m⟩ := mref_obj h hx (mapAt_some hm)
  have hkey : a.eval y = .string k := by
   have hr := h.ev y
   rw [hy] at hr
   exact rel_str hr
  have fin : ∀ es', (execOp a.eval o).run C.P w = .ok (.value (.tuple #[])) { w with heap := w.heap.setIfInBounds (g.loc id).1 (.map es' cl) } →
    (∀ ks' vs', delM k cl ks vs = .mcon cl ks' vs' → es'.toList.map (fun e => (e.born, e.key)) = ks'.map (fun k => (k.1, Value.string k.2)) ∧ vs'.length = ks'.length ∧ ∀ (i : Nat) (e : MapEntry) (v : PV), es'[i]? = some e → vs'[i]? = some v → Rel g w v e.val ∧ v.bare = v) → o.wp C.P a w R Q := by
   intro es' hrun hall
   have hshape : ∃ ks' vs', delM k cl ks vs = .mcon cl ks' vs' := by
    unfold delM
    split
    ·exact ⟨_, _, rfl⟩
    ·exact ⟨_, _, rfl⟩
   obtain ⟨ks', vs', hsh⟩ := hshape
   obtain ⟨h1, h2, h3⟩ := hall ks' vs' hsh
   obtain ⟨fr, hst⟩ := h.miscObj hn hkn m (cl' := cl) h1 h2 h3
   unfold Oper.wp
   rw [hrun, Oper.upon_value, hd]
   rw [hsh] at hv
   exact hR _ _ g _ _ hv hst rfl fr
  have hes2 := m.keys
  rcases findNow_idx k es.toList ks 0 hes2 with ⟨f1, f2⟩ | ⟨j, e', f1, f4, f5, f2⟩
  ·have hdm : delM k cl ks vs = .mcon cl ks vs := by unfold delM; rw [f2]
   refine fin es ?_ (fun ks' vs' hh => ?_)
   ·simp [execOp, ho, resolve, invoke, builtin, Builtin.delete_, ht0, hmap, hkey, run_underlying hu, MapKept.run_getObj_map m.heap, MapKept.run_checkKey hk (show MapKept.IsKey .string (.string k) from trivial), MapKept.run_findKey hk f1, MapKept.run_setObj_map _ m.heap]
   ·rw [hdm] at hh
    simp only [PV.mcon.injEq, true_and] at hh
    obtain ⟨rfl, rfl⟩ := hh
    exact ⟨m.keys, m.len, m.vals⟩
  ·simp only [Nat.zero_add] at f1 f2
   have hdm : delM k cl ks vs = .mcon cl (ks.eraseIdx j) (vs.eraseIdx j) := by unfold delM; rw [f2]
   have hj : j < es.size := by
    have := (List.getElem?_eq_some_iff.1 f4).1
    simpa using this
   have hte : (es.eraseIdxIfInBounds j).toList = es.toList.eraseIdx j := by
    unfold Array.eraseIdxIfInBounds
    rw [dif_pos hj]
    simp
   have hke : (es.eraseIdxIfInBounds j).toList.map (fun e => (e.born, e.key)) = (ks.eraseIdx j).map (fun k => (k.1, Value.string k.2)) := by
    rw [hte, map_eraseIdx', m.keys, ← map_eraseIdx']
   refine fin (es.eraseIdxIfInBounds j) ?_ (fun ks' vs' hh => ?_)
   ·simp [execOp, ho, resolve, invoke, builtin, Builtin.delete_, ht0, hmap, hkey, run_underlying hu, MapKept.run_getObj_map m.heap, MapKept.run_checkKey hk (show MapKept.IsKey .string (.string k) from trivial), MapKept.run_findKey hk f1, MapKept.run_setObj_map _ m.heap]
   ·rw [hdm] at hh
    simp only [PV.mcon.injEq, true_and] at hh
    obtain ⟨rfl, rfl⟩ := hh
    have hls := m.len
    have hsz := m.size
    refine ⟨hke, by rw [List.length_eraseIdx, List.length_eraseIdx, hls], fun i e v he hvv => ?_⟩
    rw [← Array.getElem?_toList, hte, List.getElem?_eraseIdx] at he
    rw [List.getElem?_eraseIdx] at hvv
    split at he
    ·rename_i hij
     rw [if_pos hij] at hvv
     exact m.vals i e v (by rw [← Array.getElem?_toList]; exact he) hvv
    ·rename_i hij
     rw [if_neg hij] at hvv
     exact m.vals (i + 1) e v (by rw [← Array.getElem?_toList]; exact he) hvv
 ·exact hv.elim
theorem vLenO_sound {x : Operand} {ts : Array TypeId} (ho : o.op = .call ⟨.builtin .len, #[x], ts⟩) (h : St X.n g w e S a.tmps) (hv : vLenO X o.dst K e S ((ts[0]?).bind (mapS C.P)) (pop C o e) (ev x e)) (hR : Goes X g w a K R) : o.wp C.P a w R Q := by
 unfold vLenO at hv
 split at hv
 ·rename_i id hx
  split at hv
  ·rename_i z d cl ks vs hz hd hm
   obtain ⟨t, ht0, hz⟩ := Option.bind_eq_some_iff.1 hz
   obtain ⟨kt, el, ti, hu, hk, _, _⟩ := mapS_some hz
   obtain ⟨⟨hmap, hn, hkn⟩, es, m⟩ := mref_obj h hx (mapAt_some hm)
   refine vPut_sound hd hv.1 hv.2 h (rv := .int .i64 ks.length) ?_ (Quiet.refl h.new) (.ofRel (.int _ _) rfl) hR
   have := m.size
   simp [execOp, ho, resolve, invoke, builtin, Builtin.len_, ht0, hmap, run_underlying hu, MapKept.run_getObj_map m.heap, goInt, this]
  ·exact hv.elim
 ·exact vPop_sound h hv hR

theorem vCallG_sound {f : FuncId} {xs : Array Operand} {ps : List PV} {rargs : Array Value} (hgo : ∀ fn, C.P.funcs[f]? = some fn → (fn.name == "runtime.NumGoroutine") = false → fn.body.isNone = false → (execOp a.eval o).run C.P w = .ok (.enter f rargs) w)
  (h : St X.n g w e S a.tmps) (hd : dstOk X o.dst = true) (hent : St ps.length (g.callee (mvd X o.dst) xs.toList) w (argEnv ps) S rargs) (hv : PCalls C.P f ps S (retK K (afterCall (mvd X o.dst) xs.toList e) o.dst)) (hR : Goes X g w a K R) : o.wp C.P a w R Q := by
 obtain ⟨⟨fn, hf1, hf2, hf3⟩, hcall⟩ := hv
 have hrun := hgo fn hf1 hf2 hf3
 unfold Oper.wp
 rw [hrun, Oper.upon_enter]
 refine (hcall _ _ _ hent).mono ?_
 rintro en w' ⟨rv, v, S', g', rfl, hK, fr, htop, hobjs, hnew⟩
 dsimp only
 have frb := back_fr fr o.dst
 refine hR _ _ (g.back (g.callee (mvd X o.dst) xs.toList) g' o.dst) w' _ hK ?_ (put_defers _ _ _) frb
 -- the slots of the caller
 have hst : St X.n (g.back (g.callee (mvd X o.dst) xs.toList) g' o.dst) w' (afterCall (mvd X o.dst) xs.toList e) S' a.tmps := by
  refine ⟨h.size, fun t ht => ?_, fun t ht => ?_, fun id cells hi => ?_, fun b o' hb => ?_⟩
  ·have htt := h.slots t ht
   have keep : (mvd X o.dst = false ∨ argPos xs.toList t = none) → Top (g.back (g.callee (mvd X o.dst) xs.toList) g' o.dst) w' t (e t) (a.tmps.getD t Go.undef) := by
    intro hun
    refine ⟨htt.rel.mono frb, ?_⟩
    have hfo : ∀ b o', g.lab b o' = .slot t → (g.callee (mvd X o.dst) xs.toList).lab b o' = .foreign := by
     intro b o' hl
     show toCallee _ _ (g.lab b o') = _
     rw [hl]
     simp only [toCallee]
     rcases hun with h1 | h1
     ·rw [h1]; rfl
     ·rw [h1]; split <;> rfl
    have key : ∀ b o', g.lab b o' = .slot t → (g.back (g.callee (mvd X o.dst) xs.toList) g' o.dst).lab b o' = .slot t := by
     intro b o' hl
     simp only [Gh.back]
     rw [if_pos (hfo b o' hl)]
     exact hl
    have blk : ∀ b x, w.heap[b]? = some x → (∀ o', g.lab b o' = .slot t) → w'.heap[b]? = some x := fun b x hx hl =>
     (fr.block b (lt_of_heap hx) (fun o' ho' => by rw [hfo b o' (hl o')] at ho'; exact ho')).trans hx
    have htl := htt.tail
    unfold Tail at *
    split at htl
    ·refine ⟨htl.1, fun k h1 h2 => ?_⟩
     obtain ⟨q1, q2, q3⟩ := htl.2 k h1 h2
     exact ⟨key _ _ q1, fr.some _ _ q2, (fr.mark _ _ (lt_of_isSome q2)).trans q3⟩
    ·refine ⟨⟨htl.1.1, Nat.lt_of_lt_of_le htl.1.2.1 frb.nxt, (frb.knd _ htl.1.2.1).trans htl.1.2.2.1, by rw [frb.loc _ htl.1.2.1]; exact htl.1.2.2.2⟩, fun k h1 h2 => ?_⟩
     obtain ⟨q1, q2, q3⟩ := htl.2 k h1 h2
     exact ⟨key _ _ q1, fr.some _ _ q2, (fr.mark _ _ (lt_of_isSome q2)).trans q3⟩
    ·exact ⟨fun o' => key _ _ (htl.1 o'), blk _ _ htl.2 htl.1⟩
    ·obtain ⟨h1, es, cl, h2, h3⟩ := htl
     exact ⟨fun o' => key _ _ (h1 o'), es, cl, blk _ _ h2 h1, h3⟩
    ·obtain ⟨h1, ⟨h2, h3⟩, h4, h5⟩ := htl
     exact ⟨fun o' => key _ _ (h1 o'), ⟨Nat.lt_of_lt_of_le h2 frb.nxt, (frb.knd _ h2).trans h3⟩, by rw [frb.loc _ h2]; exact blk _ _ h4 h1, h5⟩
    ·refine ⟨⟨htl.1.1, fr.noMark htl.1.2⟩, fun k h1 => ?_⟩
     obtain ⟨q1, q2, q3⟩ := htl.2 k h1
     exact ⟨key _ _ q1, fr.some _ _ q2, (fr.mark _ _ (lt_of_isSome q2)).trans q3⟩
    ·trivial
   unfold afterCall
   split
   ·dsimp only
    split
    ·exact ⟨htt.rel.bare.mono frb, Tail.bare _ _ _ _ _⟩
    ·rename_i hs
     exact keep (.inr (by simpa using hs))
   ·rename_i hm
    exact keep (.inl (by simpa using hm))
  ·unfold afterCall
   split
   ·dsimp only
    split
    ·rw [h.beyond t ht]; rfl
    ·exact h.beyond t ht
   ·exact h.beyond t ht
  ·have hob := hobjs id cells hi
   refine ⟨hob.lt, fun hn k v hk => ?_, fun hn => (hob.mp hn).map rfl (fun b o' hl => back_keep fr o.dst hl (by simp)) (fun _ _ _ _ hh => hh) (fun _ _ hr => hr.same (fun b o' hl => back_keep fr o.dst hl (by simp)) (fun _ _ _ _ hc => hc) (fun _ _ => rfl) (Nat.le_refl _) (fun _ h => h))⟩
   obtain ⟨h1, h2, rv, h3, h4, h5, h6⟩ := hob.cell hn k v hk
   refine ⟨back_keep fr o.dst h1 (by simp), h2, rv, h3, h4, h5.same (fun b o' hl => back_keep fr o.dst hl (by simp)) (fun _ _ _ _ hc => hc) (fun _ _ => rfl) (Nat.le_refl _) (fun _ h => h), h6.map fun b o' ⟨c1, c2⟩ => ⟨back_keep fr o.dst c1 (by simp), c2⟩⟩
  ·have h1 := hnew b o' hb
   exact back_keep fr o.dst h1 (by simp)
 have hback : ∀ d, o.dst = some d → Top (g.back (g.callee (mvd X o.dst) xs.toList) g' o.dst) w' d v rv := by
  intro d hdst
  refine ⟨htop.rel.same (fun b o' hl => back_keep fr o.dst hl (by simp)) (fun _ _ _ _ hc => hc) (fun _ _ => rfl) (Nat.le_refl _) (fun _ h => h), htop.tail.relab fun b o' hl => ?_⟩
  rw [back_keep fr o.dst hl (by simp), hdst]
  rfl
 revert hst hback hd
 generalize g.back (g.callee (mvd X o.dst) xs.toList) g' o.dst = gb
 generalize afterCall (mvd X o.dst) xs.toList e = eb
 intro hd hst hback
 cases hdst : o.dst with
 | none => exact hst
 | some d =>
  rw [hdst] at hd
  rw [put_tmps]
  exact hst.put (by simpa [dstOk] using hd) (hback d hdst)
theorem vCallF_sound {f : FuncId} {xs : Array Operand} {ts : Array TypeId} {cal : Callee} (hgo : ∀ fn, C.P.funcs[f]? = some fn → (fn.name == "runtime.NumGoroutine") = false → fn.body.isNone = false → (execOp a.eval o).run C.P w = .ok (.enter f (xs.map a.eval)) w)
  (h : St X.n g w e S a.tmps) (hv : vCallF C X o ⟨cal, xs, ts⟩ f K e S) (hR : Goes X g w a K R) : o.wp C.P a w R Q := by
 unfold vCallF at hv
 dsimp only at hv
 split at hv
 ·rename_i hok
  simp only [Bool.and_eq_true, Bool.or_eq_true, Bool.not_eq_true'] at hok
  obtain ⟨hd, hap⟩ := hok
  have hent := h.enter (C := C) (mvd X o.dst) xs.toList ts.toList (fun hm => by
   rcases hap with h1 | h1
   ·rw [hm] at h1; cases h1
   ·exact h1)
  have hargs : (xs.toList.map a.eval).toArray = xs.map a.eval := by
   apply Array.ext'
   simp
  rw [hargs] at hent
  exact vCallG_sound hgo h hd hent hv hR
 ·exact hv.elim

theorem vCall_sound {c : Call} (ho : o.op = .call c) (h : St X.n g w e S a.tmps) (hv : vCall C X o c K e S) (hR : Goes X g w a K R) : o.wp C.P a w R Q := by
 unfold vCall at hv
 split at hv
 ·rename_i hc
  obtain ⟨cal, xs, ts⟩ := c
  dsimp only at hc
  subst hc
  exact vAppend_sound ho h hv hR
 ·rename_i hc
  obtain ⟨cal, xs, ts⟩ := c
  dsimp only at hc
  subst hc
  split at hv
  ·rename_i x hx
   have hxs : xs = #[x] := by
    apply Array.ext'
    rw [hx]
   subst hxs
   exact vLenO_sound ho h hv hR
  ·exact vPop_sound h hv hR
 ·rename_i hc
  obtain ⟨cal, xs, ts⟩ := c
  dsimp only at hc
  subst hc
  split at hv
  ·rename_i x y hx
   have hxs : xs = #[x, y] := by
    apply Array.ext'
    rw [hx]
   subst hxs
   exact vDlO_sound (t0 := 0) ho h hv hR (fun _ => trivial)
  ·exact hv.elim
 ·exact vPop_sound h hv hR
 ·rename_i f hc
  obtain ⟨cal, xs, ts⟩ := c
  dsimp only at hc
  subst hc
  exact vCallF_sound (fun fn hf1 hf2 hf3 => by
   simp only [execOp, ho, resolve, invoke, Sem.run_bind, Sem.run_pure, Result.andThen_ok, Act.eval, Deferred.ofValue, callFunc, program, Sem.run, hf1, hf2, hf3, Bool.false_eq_true, if_false]
   simp) h hv hR
 ·rename_i s hc
  obtain ⟨cal, xs, ts⟩ := c
  dsimp only at hc
  subst hc
  split at hv
  ·rename_i f hes
   have hr := (h.top s).rel
   rw [hes] at hr
   have hval : a.eval (.tmp s) = .func (.func f) #[] #[] := by
    generalize a.eval (.tmp s) = q at hr
    cases hr with
    | @fn _ _ _ vs us hl hm _ _ =>
     have e1 : vs = #[] := Array.eq_empty_of_size_eq_zero (by simpa using hl.symm)
     have e2 : us = #[] := Array.eq_empty_of_size_eq_zero (by simpa using hm.symm)
     rw [e1, e2]
   exact vCallF_sound (fun fn hf1 hf2 hf3 => by
    simp only [execOp, ho, resolve, hval, invoke, Sem.run_bind, Sem.run_pure, Result.andThen_ok, Deferred.ofValue, callFunc, program, Sem.run, hf1, hf2, hf3, Bool.false_eq_true, if_false]
    simp) h hv hR
  ·rename_i f b cs hes
   split at hv
   ·rename_i hok
    simp only [Bool.and_eq_true, Bool.not_eq_true'] at hok
    obtain ⟨hd, hm⟩ := hok
    have hr := (h.top s).rel
    rw [hes] at hr
    obtain ⟨us, hval, hus, hrel⟩ : ∃ us : Array Value, a.eval (.tmp s) = .func (.func f) #[] us ∧ (b :: cs).length = us.size ∧ ∀ (k : Nat) v rv, (b :: cs)[k]? = some v → us[k]? = some rv → Rel g w v rv := by
     generalize a.eval (.tmp s) = q at hr
     cases hr with
     | @fn _ _ _ vs us hl hm _ h2 =>
      have e1 : vs = #[] := Array.eq_empty_of_size_eq_zero (by simpa using hl.symm)
      rw [e1]
      exact ⟨us, rfl, hm, h2⟩
    have hent := h.enter (C := C) false xs.toList ts.toList (fun hm => by cases hm)
    have hent2 : St (cargs C false xs.toList ts.toList e ++ (b :: cs).map PV.bare).length (g.callee false xs.toList) w (argEnv (cargs C false xs.toList ts.toList e ++ (b :: cs).map PV.bare)) S (xs.map a.eval ++ us) := by
     have hsz := hent.size
     have hargs : (xs.toList.map a.eval).toArray = xs.map a.eval := by
      apply Array.ext'
      simp
     rw [hargs] at hent hsz
     refine ⟨by simp only [Array.size_append, List.length_append, List.length_map, hsz, hus], fun j hj => ?_, fun j hj => ?_, hent.objs, hent.new⟩
     ·by_cases hlt : j < (cargs C false xs.toList ts.toList e).length
      ·have h1 := hent.slots j hlt
       have e1 : argEnv (cargs C false xs.toList ts.toList e ++ (b :: cs).map PV.bare) j = argEnv (cargs C false xs.toList ts.toList e) j := by
        simp only [argEnv, List.getD_eq_getElem?_getD]
        rw [List.getElem?_append_left hlt]
       have e2 : (xs.map a.eval ++ us).getD j Go.undef = (xs.map a.eval).getD j Go.undef := by
        simp only [Array.getD_eq_getD_getElem?]
        rw [Array.getElem?_append_left (by omega)]
       rw [e1, e2]
       exact h1
      ·have hj2 : j - (cargs C false xs.toList ts.toList e).length < (b :: cs).length := by
        rw [List.length_append, List.length_map] at hj
        omega
       have hv1 : (b :: cs)[j - (cargs C false xs.toList ts.toList e).length]? = some (b :: cs)[j - (cargs C false xs.toList ts.toList e).length] := List.getElem?_eq_getElem hj2
       have hu1 : us[j - (cargs C false xs.toList ts.toList e).length]? = some us[j - (cargs C false xs.toList ts.toList e).length] := Array.getElem?_eq_getElem (by omega)
       have e1 : argEnv (cargs C false xs.toList ts.toList e ++ (b :: cs).map PV.bare) j = ((b :: cs)[j - (cargs C false xs.toList ts.toList e).length]).bare := by
        simp only [argEnv, List.getD_eq_getElem?_getD]
        rw [List.getElem?_append_right (by omega), List.getElem?_map, hv1]
        rfl
       have e2 : (xs.map a.eval ++ us).getD j Go.undef = us[j - (cargs C false xs.toList ts.toList e).length] := by
        simp only [Array.getD_eq_getD_getElem?]
        rw [Array.getElem?_append_right (by omega), hsz, hu1]
        rfl
       rw [e1, e2]
       exact .ofBare (hrel _ _ _ hv1 hu1).callee
     ·simp only [argEnv, List.getD_eq_getElem?_getD]
      rw [List.getElem?_eq_none hj]
      rfl
    refine vCallG_sound (xs := xs) (fun fn hf1 hf2 hf3 => ?_) h hd (by rw [hm]; exact hent2) (by rw [hm]; exact hv) hR
    simp only [execOp, ho, resolve, hval, invoke, Sem.run_bind, Sem.run_pure, Result.andThen_ok, Deferred.ofValue, callFunc, program, Sem.run, hf1, hf2, hf3, Bool.false_eq_true, if_false]
    simp
   ·exact hv.elim
  ·exact hv.elim
 ·exact hv.elim
end
end Go.VL

/- VL, part 15: regions in the order of the text; code; functions. -/
namespace Go.VL
open Go

section
variable {C : Ctx} {X : Fx} {o : Oper} {g : Gh} {w : World} {a : Act} {e : Env} {S : Store} {K : Env → Store → Prop} {R : Act → World → Prop} {Q : Exit → Act → World → Prop}

theorem equal_nil {t el : TypeId} (hu : C.P.underlying t = some (.slice el)) (b : Option Addr) (l c : Nat) : (Op.equal t (.slice b l c) (.slice none 0 0)).run C.P w = .ok b.isNone w := by
 rw [equal_succ, Op.equalIn]
 cases b <;> simp only [Sem.run_bind, run_underlying hu, Result.andThen_ok, Sem.run_pure, Option.isNone_none, Option.isNone_some]

/-- Two pointers to what never changes: are they one? -/
theorem equal_np {t : TypeId} (hz : C.Z t = true) {c c' : List PV} (h1 : c ≠ []) (h2 : c' ≠ []) {rx ry : Value} (hx : Rel g w (.np c) rx) (hy : Rel g w (.np c') ry) :
  ∃ (b : Bool) (p q : Option Addr), rx = .pointer p ∧ ry = .pointer q ∧ (Op.equal t (.pointer p) (.pointer q)).run C.P w = .ok b w ∧ (b = true → Alike (.np c) (.np c')) := by
 obtain ⟨el, i, hu, hi, hsz⟩ := C.hZ t hz
 have hx0 := hx
 have hy0 := hy
 have block : ∀ {b o : Nat} {v : Value}, w.cell? ⟨b, o, none⟩ = some v → NoMark w b → ∃ cs ty lo hi, w.heap[b]? = some (.cells cs ty (lo, hi)) ∧ ∀ o : Nat, ¬ (lo ≤ o ∧ o < hi) := by
  intro b o v hc hm
  unfold World.cell? at hc
  split at hc
  ·rename_i cs ty fr hb
   obtain ⟨lo, hi⟩ := fr
   refine ⟨cs, ty, lo, hi, hb, fun o ho => ?_⟩
   have := hm.2 o
   simp only [World.frozen?, hb] at this
   simp [ho.1, ho.2] at this
  ·cases hc
 cases hx with
 | @np _ b o f hm hf hr =>
  cases hy with
  | @np _ b' o' f' hm' hf' hr' =>
   obtain ⟨u, c, rfl⟩ : ∃ u l, c = u :: l := by cases c with | nil => exact absurd rfl h1 | cons u l => exact ⟨u, l, rfl⟩
   obtain ⟨u', c', rfl⟩ : ∃ u l, c' = u :: l := by cases c' with | nil => exact absurd rfl h2 | cons u l => exact ⟨u, l, rfl⟩
   obtain ⟨cs, ty, lo, hi', hb1, hb2⟩ := block (hf 0 u rfl).2.1 hm
   obtain ⟨cs', ty', lo', hi2, hb1', hb2'⟩ := block (hf' 0 u' rfl).2.1 hm'
   have e1 : ∀ o : Nat, (decide (lo ≤ o) && decide (o < hi')) = false := fun o => by
    have := hb2 o
    by_cases h1 : lo ≤ o <;> by_cases h2 : o < hi' <;> simp_all
   have e2 : ∀ o : Nat, (decide (lo' ≤ o) && decide (o < hi2)) = false := fun o => by
    have := hb2' o
    by_cases h1 : lo' ≤ o <;> by_cases h2 : o < hi2 <;> simp_all
   have hsame : (sameAddr ⟨b, o, none⟩ ⟨b', o', none⟩).run C.P w = .ok (decide (b = b' ∧ o = o')) w := by
    by_cases hbl : b = b'
    ·subst hbl
     by_cases hoo : o = o'
     ·subst hoo
      simp [sameAddr]
     ·simp [sameAddr, hoo]
    ·simp [sameAddr, hbl, World.frozen?, hb1, hb1', noView, viewAt, World.shape?, mayBeOne, stringish, e1, e2]
   refine ⟨decide (b = b' ∧ o = o'), _, _, rfl, rfl, ?_, fun hb => ?_⟩
   ·rw [equal_succ, Op.equalIn]
    simp only [Sem.run_bind, run_underlying hu, Result.andThen_ok, sizeOf, typeInfo, Sem.run_pure, run_program, hi]
    rw [if_pos (by simpa using hsz)]
    exact hsame
   ·obtain ⟨rfl, rfl⟩ := of_decide_eq_true hb
    exact ⟨g, w, _, hx0, hy0⟩

/-- Two pointers whose places are known: are they one? -/
theorem equal_nq {t : TypeId} (hz : C.Z t = true) {q r q' r' : Nat} {c c' : List PV} (h1 : c ≠ []) (h2 : c' ≠ []) {rx ry : Value} (hx : Rel g w (.nq q r c) rx) (hy : Rel g w (.nq q' r' c') ry) :
  ∃ (m n : Option Addr), rx = .pointer m ∧ ry = .pointer n ∧ (Op.equal t (.pointer m) (.pointer n)).run C.P w = .ok (decide (q = q' ∧ r = r')) w := by
 obtain ⟨el, i, hu, hi, hsz⟩ := C.hZ t hz
 have hx0 := hx
 have hy0 := hy
 have block : ∀ {b o : Nat} {v : Value}, w.cell? ⟨b, o, none⟩ = some v → NoMark w b → ∃ cs ty lo hi, w.heap[b]? = some (.cells cs ty (lo, hi)) ∧ ∀ o : Nat, ¬ (lo ≤ o ∧ o < hi) := by
  intro b o v hc hm
  unfold World.cell? at hc
  split at hc
  ·rename_i cs ty fr hb
   obtain ⟨lo, hi⟩ := fr
   refine ⟨cs, ty, lo, hi, hb, fun o ho => ?_⟩
   have := hm.2 o
   simp only [World.frozen?, hb] at this
   simp [ho.1, ho.2] at this
  ·cases hc
 cases hx with
 | nq f hm hf hr =>
  cases hy with
  | nq f' hm' hf' hr' =>
   obtain ⟨u, c, rfl⟩ : ∃ u l, c = u :: l := by cases c with | nil => exact absurd rfl h1 | cons u l => exact ⟨u, l, rfl⟩
   obtain ⟨u', c', rfl⟩ : ∃ u l, c' = u :: l := by cases c' with | nil => exact absurd rfl h2 | cons u l => exact ⟨u, l, rfl⟩
   obtain ⟨cs, ty, lo, hi', hb1, hb2⟩ := block (hf 0 u rfl).2.1 hm
   obtain ⟨cs', ty', lo', hi2, hb1', hb2'⟩ := block (hf' 0 u' rfl).2.1 hm'
   have e1 : ∀ o : Nat, (decide (lo ≤ o) && decide (o < hi')) = false := fun o => by
    have := hb2 o
    by_cases h1 : lo ≤ o <;> by_cases h2 : o < hi' <;> simp_all
   have e2 : ∀ o : Nat, (decide (lo' ≤ o) && decide (o < hi2)) = false := fun o => by
    have := hb2' o
    by_cases h1 : lo' ≤ o <;> by_cases h2 : o < hi2 <;> simp_all
   have hsame : (sameAddr ⟨q, r, none⟩ ⟨q', r', none⟩).run C.P w = .ok (decide (q = q' ∧ r = r')) w := by
    by_cases hbl : q = q'
    ·subst hbl
     by_cases hoo : r = r'
     ·subst hoo
      simp [sameAddr]
     ·simp [sameAddr, hoo]
    ·simp [sameAddr, hbl, World.frozen?, hb1, hb1', noView, viewAt, World.shape?, mayBeOne, stringish, e1, e2]
   refine ⟨_, _, rfl, rfl, ?_⟩
   rw [equal_succ, Op.equalIn]
   simp only [Sem.run_bind, run_underlying hu, Result.andThen_ok, sizeOf, typeInfo, Sem.run_pure, run_program, hi]
   rw [if_pos (by simpa using hsz)]
   exact hsame

theorem vEqM_sound {op : BinOp} {t ty : TypeId} {x y : Operand} {m : Option Nat} (ho : o.op = .binOp op t x y ty) (h : St X.n g w e S a.tmps) (hx : a.eval x = .map m) (hy : y = .const (.map none)) (hv : vEqM X op m.isNone (mapS C.P t) o.dst K e S) (hR : Goes X g w a K R) : o.wp C.P a w R Q := by
 subst hy
 have hy0 : a.eval (.const (.map none)) = .map none := rfl
 have heq : ∀ {kt el : TypeId}, C.P.underlying t = some (.map kt el) → (Op.equal t (.map m) (.map none)).run C.P w = .ok m.isNone w := by
  intro kt el hu
  rw [equal_succ, Op.equalIn]
  cases m <;> simp only [Sem.run_bind, run_underlying hu, Result.andThen_ok, Sem.run_pure, Option.isNone_none, Option.isNone_some]
 unfold vEqM at hv
 split at hv
 ·rename_i z d hz hd
  obtain ⟨kt, el, ti, hu, hk, _, _⟩ := mapS_some hz
  have hrun : (execOp a.eval o).run C.P w = .ok (.value (.bool m.isNone)) w := by
   simp only [execOp, ho, hx, hy0, Sem.run_bind, eqGuard_plain .eql t x _ (.map m) _ (by simp) (by simp), Result.andThen_ok, Sem.run_pure]
   simp only [binOp, Sem.run_bind, heq hu, Result.andThen_ok, Sem.run_pure]
  exact vPut_sound hd hv.1 hv.2 h hrun (Quiet.refl h.new) ⟨.bool _, by simp [Tail]⟩ hR
 ·rename_i z d hz hd
  obtain ⟨kt, el, ti, hu, hk, _, _⟩ := mapS_some hz
  have hrun : (execOp a.eval o).run C.P w = .ok (.value (.bool !m.isNone)) w := by
   simp only [execOp, ho, hx, hy0, Sem.run_bind, eqGuard_plain .neq t x _ (.map m) _ (by simp) (by simp), Result.andThen_ok, Sem.run_pure]
   simp only [binOp, Sem.run_bind, heq hu, Result.andThen_ok, Sem.run_pure]
  exact vPut_sound hd hv.1 hv.2 h hrun (Quiet.refl h.new) ⟨.bool _, by simp [Tail]⟩ hR
 ·exact hv.elim
theorem vSame_sound {op : BinOp} {t ty : TypeId} {x y : Operand} (ho : o.op = .binOp op t x y ty) (h : St X.n g w e S a.tmps) (hv : vSame C X op (C.Z t) (C.T t) (ev x e) y o.dst K e S) (hR : Goes X g w a K R) : o.wp C.P a w R Q := by
 unfold vSame at hv
 split at hv
 ·rename_i el _ _ _ f sz rows d hT hx hd
  split at hv
  ·rename_i hdn
   have hu := und_slice (C := C) hT rfl
   have hr := h.ev x
   rw [hx] at hr
   obtain ⟨b, l, c, hrv, hb⟩ : ∃ (b : Option Addr) (l c : Nat), a.eval x = .slice b l c ∧ (b.isNone = true → rows = []) := by
    rcases sl_parts hr with ⟨h1, h2⟩ | ⟨b, o', sp, cap, h1, _, _⟩
    ·exact ⟨none, 0, 0, h1, fun _ => h2⟩
    ·exact ⟨_, _, _, h1, fun h => by cases h⟩
   have hy0 : a.eval (.const (.slice none 0 0)) = .slice none 0 0 := rfl
   have hrun : (execOp a.eval o).run C.P w = .ok (.value (.bool b.isNone)) w := by
    simp only [execOp, ho, hrv, hy0, Sem.run_bind, eqGuard_plain .eql t x _ (.slice b l c) _ (by simp) (by simp), Result.andThen_ok, Sem.run_pure]
    simp only [binOp, Sem.run_bind, equal_nil hu, Result.andThen_ok, Sem.run_pure]
   exact vPut_sound hd hdn (hv _ hb) h hrun (Quiet.refl h.new) ⟨.bool _, by simp [Tail]⟩ hR
  ·exact hv.elim
 ·rename_i el _ _ _ f sz rows d hT hx hd
  split at hv
  ·rename_i hdn
   have hu := und_slice (C := C) hT rfl
   have hr := h.ev x
   rw [hx] at hr
   obtain ⟨b, l, c, hrv, hb⟩ : ∃ (b : Option Addr) (l c : Nat), a.eval x = .slice b l c ∧ (b.isNone = true → rows = []) := by
    rcases sl_parts hr with ⟨h1, h2⟩ | ⟨b, o', sp, cap, h1, _, _⟩
    ·exact ⟨none, 0, 0, h1, fun _ => h2⟩
    ·exact ⟨_, _, _, h1, fun h => by cases h⟩
   have hy0 : a.eval (.const (.slice none 0 0)) = .slice none 0 0 := rfl
   have hrun : (execOp a.eval o).run C.P w = .ok (.value (.bool !b.isNone)) w := by
    simp only [execOp, ho, hrv, hy0, Sem.run_bind, eqGuard_plain .neq t x _ (.slice b l c) _ (by simp) (by simp), Result.andThen_ok, Sem.run_pure]
    simp only [binOp, Sem.run_bind, equal_nil hu, Result.andThen_ok, Sem.run_pure]
   exact vPut_sound hd hdn (hv _ hb) h hrun (Quiet.refl h.new) ⟨.bool _, by simp [Tail]⟩ hR
  ·exact hv.elim
 ·rename_i el _ _ _ f id off len sz d hT hx hd
  split at hv
  ·rename_i hdn
   have hu := und_slice (C := C) hT rfl
   have hr := h.ev x
   rw [hx] at hr
   obtain ⟨b, l, c, hrv, hb⟩ : ∃ (b : Option Addr) (l c : Nat), a.eval x = .slice b l c ∧ (b.isNone = true → len = 0) := by
    generalize a.eval x = q at hr
    cases hr with
    | arr0 f id off sz ad cap h => exact ⟨ad, _, cap, rfl, fun _ => rfl⟩
    | arr f h1 h2 => exact ⟨_, _, _, rfl, fun h => by cases h⟩
   have hy0 : a.eval (.const (.slice none 0 0)) = .slice none 0 0 := rfl
   have hrun : (execOp a.eval o).run C.P w = .ok (.value (.bool b.isNone)) w := by
    simp only [execOp, ho, hrv, hy0, Sem.run_bind, eqGuard_plain .eql t x _ (.slice b l c) _ (by simp) (by simp), Result.andThen_ok, Sem.run_pure]
    simp only [binOp, Sem.run_bind, equal_nil hu, Result.andThen_ok, Sem.run_pure]
   exact vPut_sound hd hdn (hv _ hb) h hrun (Quiet.refl h.new) ⟨.bool _, by simp [Tail]⟩ hR
  ·exact hv.elim
 ·rename_i el _ _ _ f id off len sz d hT hx hd
  split at hv
  ·rename_i hdn
   have hu := und_slice (C := C) hT rfl
   have hr := h.ev x
   rw [hx] at hr
   obtain ⟨b, l, c, hrv, hb⟩ : ∃ (b : Option Addr) (l c : Nat), a.eval x = .slice b l c ∧ (b.isNone = true → len = 0) := by
    generalize a.eval x = q at hr
    cases hr with
    | arr0 f id off sz ad cap h => exact ⟨ad, _, cap, rfl, fun _ => rfl⟩
    | arr f h1 h2 => exact ⟨_, _, _, rfl, fun h => by cases h⟩
   have hy0 : a.eval (.const (.slice none 0 0)) = .slice none 0 0 := rfl
   have hrun : (execOp a.eval o).run C.P w = .ok (.value (.bool !b.isNone)) w := by
    simp only [execOp, ho, hrv, hy0, Sem.run_bind, eqGuard_plain .neq t x _ (.slice b l c) _ (by simp) (by simp), Result.andThen_ok, Sem.run_pure]
    simp only [binOp, Sem.run_bind, equal_nil hu, Result.andThen_ok, Sem.run_pure]
   exact vPut_sound hd hdn (hv _ hb) h hrun (Quiet.refl h.new) ⟨.bool _, by simp [Tail]⟩ hR
  ·exact hv.elim
 ·rename_i _ _ _ c s d hT hx hd
  split at hv
  ·rename_i c' hy
   split at hv
   ·rename_i hc
    have hr := h.ev x
    rw [hx] at hr
    have hr2 := (h.top s).rel
    rw [hy] at hr2
    obtain ⟨b, rx, ry, h1, h2, hrun', hb⟩ := equal_np (C := C) hc.2.1 hc.2.2.1 hc.2.2.2 hr hr2
    have hrun : (execOp a.eval o).run C.P w = .ok (.value (.bool b)) w := by
     simp only [execOp, ho, h1, h2, Sem.run_bind, eqGuard_plain .eql t x _ (.pointer rx) _ (by simp) (by simp), Result.andThen_ok, Sem.run_pure]
     simp only [binOp, Sem.run_bind, hrun', Result.andThen_ok, Sem.run_pure]
    exact vPut_sound hd hc.1 (hv _ hb) h hrun (Quiet.refl h.new) ⟨.bool _, by simp [Tail]⟩ hR
   ·exact hv.elim
  ·exact hv.elim
 ·rename_i _ _ _ c s d hT hx hd
  split at hv
  ·rename_i c' hy
   split at hv
   ·rename_i hc
    have hr := h.ev x
    rw [hx] at hr
    have hr2 := (h.top s).rel
    rw [hy] at hr2
    obtain ⟨b, rx, ry, h1, h2, hrun', hb⟩ := equal_np (C := C) hc.2.1 hc.2.2.1 hc.2.2.2 hr hr2
    have hrun : (execOp a.eval o).run C.P w = .ok (.value (.bool !b)) w := by
     simp only [execOp, ho, h1, h2, Sem.run_bind, eqGuard_plain .neq t x _ (.pointer rx) _ (by simp) (by simp), Result.andThen_ok, Sem.run_pure]
     simp only [binOp, Sem.run_bind, hrun', Result.andThen_ok, Sem.run_pure]
    exact vPut_sound hd hc.1 (hv _ hb) h hrun (Quiet.refl h.new) ⟨.bool _, by simp [Tail]⟩ hR
   ·exact hv.elim
  ·exact hv.elim
 ·rename_i _ _ _ q r c s d hT hx hd
  split at hv
  ·rename_i q' r' c' hy
   split at hv
   ·rename_i hc
    have hr := h.ev x
    rw [hx] at hr
    have hr2 := (h.top s).rel
    rw [hy] at hr2
    obtain ⟨rx, ry, h1, h2, hrun'⟩ := equal_nq (C := C) hc.2.1 hc.2.2.1 hc.2.2.2 hr hr2
    have hrun : (execOp a.eval o).run C.P w = .ok (.value (.bool (decide (q = q' ∧ r = r')))) w := by
     simp only [execOp, ho, h1, h2, Sem.run_bind, eqGuard_plain .eql t x _ (.pointer rx) _ (by simp) (by simp), Result.andThen_ok, Sem.run_pure]
     simp only [binOp, Sem.run_bind, hrun', Result.andThen_ok, Sem.run_pure]
    exact vPut_sound hd hc.1 hv h hrun (Quiet.refl h.new) ⟨.bool _, by simp [Tail]⟩ hR
   ·exact hv.elim
  ·exact hv.elim
 ·rename_i _ _ _ q r c s d hT hx hd
  split at hv
  ·rename_i q' r' c' hy
   split at hv
   ·rename_i hc
    have hr := h.ev x
    rw [hx] at hr
    have hr2 := (h.top s).rel
    rw [hy] at hr2
    obtain ⟨rx, ry, h1, h2, hrun'⟩ := equal_nq (C := C) hc.2.1 hc.2.2.1 hc.2.2.2 hr hr2
    have hrun : (execOp a.eval o).run C.P w = .ok (.value (.bool !(decide (q = q' ∧ r = r')))) w := by
     simp only [execOp, ho, h1, h2, Sem.run_bind, eqGuard_plain .neq t x _ (.pointer rx) _ (by simp) (by simp), Result.andThen_ok, Sem.run_pure]
     simp only [binOp, Sem.run_bind, hrun', Result.andThen_ok, Sem.run_pure]
    exact vPut_sound hd hc.1 hv h hrun (Quiet.refl h.new) ⟨.bool _, by simp [Tail]⟩ hR
   ·exact hv.elim
  ·exact hv.elim
 ·exact hv.elim

theorem vBin_sound {op : BinOp} {t ty : TypeId} {x y : Operand} (ho : o.op = .binOp op t x y ty) (h : St X.n g w e S a.tmps) (hv : vBin C X o op t x y K e S) (hR : Goes X g w a K R) : o.wp C.P a w R Q := by
 unfold vBin at hv
 split at hv
 ·rename_i v hp
  exact vPop_sound h (by rw [hp]; exact hv) hR
 ·split at hv
  ·rename_i id hx0
   have hr0 := h.ev x
   rw [hx0] at hr0
   obtain ⟨b, hb⟩ : ∃ b, a.eval x = .map (some b) := by
    generalize a.eval x = q at hr0
    cases hr0
    exact ⟨_, rfl⟩
   exact vEqM_sound (m := some b) ho h hb rfl hv hR
  ·rename_i hx0
   have hr0 := h.ev x
   rw [hx0] at hr0
   have hb : a.eval x = .map none := by
    generalize a.eval x = q at hr0
    cases hr0
    rfl
   exact vEqM_sound (m := none) ho h hb rfl hv hR
  ·exact vSame_sound ho h hv hR

theorem vBuild_sound {t : TypeId} {ps : Array (Nat × Operand)} (ho : o.op = .build t ps) (h : St X.n g w e S a.tmps) (hv : vBuild C X o t ps K e S) (hR : Goes X g w a K R) : o.wp C.P a w R Q := by
 unfold vBuild at hv
 split at hv
 ·rename_i d hd
  split at hv
  ·split at hv
   ·rename_i fs sz by_ z hT
    cases hf : pfill (places fs) (nilsOf z) (ps.toList.map fun p => (p.1, ev p.2 e)) with
    | none => rw [hf] at hv; exact hv.elim
    | some out =>
     rw [hf] at hv
     simp only [Option.map_some, vPut] at hv
     split at hv
     ·rename_i hdn
      obtain ⟨arr, hu, hm, hfs⟩ := struct_fields (C := C) hT rfl
      obtain ⟨i, zv, hi, hz, hcr⟩ := zero_nils (C := C) (g := g) (w := w) hT
      obtain ⟨us, hus, hout⟩ := fill_rel (places fs) _ _ _ _ _ hcr (by simp) (map_lit_rel h) hf
      have hb : C.P.built t (ps.map fun (i, x) => (i, a.eval x)).toList = some us := by
       unfold Program.built
       rw [hi, hu]
       simp only [hz, hm]
       rw [← hus]
       congr 1
       funext k
       simp [places]
      refine vPut_sound hd hdn hv h (rv := .agg us) ?_ (Quiet.refl h.new) (.ofRel (.agg hout.len hout.one hout.rel) rfl) hR
      simp only [execOp, ho, Sem.run_bind, run_build w t _ _ hb, Result.andThen_ok]
      rfl
     ·exact hv.elim
   ·exact hv.elim
  ·exact vPop_sound h (by rw [hd]; exact hv) hR
 ·exact hv.elim

/-! ### texts gone through, maps of one's own -/
theorem rel_ofVal (v : Value) : Rel g w (ofVal v) v ∧ (ofVal v).bare = ofVal v := by
 cases v <;> first | exact ⟨.bool _, rfl⟩ | exact ⟨.int _ _, rfl⟩ | exact ⟨.str _, rfl⟩ | exact ⟨.undef _, rfl⟩
theorem rel_valOf {p : PV} {v u : Value} (h : valOf p = some u) (hr : Rel g w p v) : v = u := by
 cases p <;> simp only [valOf, Option.some.injEq, reduceCtorEq] at h
 ·rw [← h]; exact rel_bool hr
 ·rw [← h]; exact rel_int hr
 ·rw [← h]; exact rel_str hr
theorem findNow_look (k : ByteArray) : ∀ (es : List MapEntry) (L : List (ByteArray × Value)) (i : Nat), es.map (fun e => (e.key, e.val)) = L.map (fun p => (Value.string p.1, p.2)) →
  (Instr.findNow .string (.string k) es i = some none ∧ lookS k L = none ∧ ∀ u, updS k u L = L ++ [(k, u)]) ∨
  ∃ j e, Instr.findNow .string (.string k) es i = some (some (i + j, e.val)) ∧ es[j]? = some e ∧ e.key = .string k ∧ lookS k L = some e.val ∧ ∀ u, updS k u L = L.set j (k, u)
 | [], [], _, _ => .inl ⟨rfl, rfl, fun _ => rfl⟩
 | [], _ :: _, _, h => by simp at h
 | _ :: _, [], _, h => by simp at h
 | e :: es, p :: L, i, h => by
  simp only [List.map_cons, List.cons.injEq, Prod.mk.injEq] at h
  obtain ⟨⟨h1, h2⟩, h3⟩ := h
  have hs : Instr.sameNow .string (.string k) e.key = some (k == p.1) := by rw [h1]; rfl
  cases hk : k == p.1 with
  | true =>
   have hkp := (MapKept.bytes_beq k p.1).1 hk
   refine .inr ⟨0, e, ?_, rfl, by rw [h1, hkp], ?_, fun u => ?_⟩
   ·rw [Instr.findNow, hs, hk]; rfl
   ·simp only [lookS, hk, if_true]; rw [h2]
   ·simp only [updS, hk, if_true]; rw [hkp]; rfl
  | false =>
   have hf : Instr.findNow .string (.string k) (e :: es) i = Instr.findNow .string (.string k) es (i + 1) := by rw [Instr.findNow, hs, hk]
   rcases findNow_look k es L (i + 1) h3 with ⟨a1, a2, a3⟩ | ⟨j, e', a1, a2, a3, a4, a5⟩
   ·refine .inl ⟨hf.trans a1, ?_, fun u => ?_⟩
    ·simp only [lookS, hk]; exact a2
    ·simp only [updS, hk, a3]; rfl
   ·refine .inr ⟨j + 1, e', ?_, by simpa using a2, a3, ?_, fun u => ?_⟩
    ·rw [hf, a1, show i + 1 + j = i + (j + 1) by omega]
    ·simp only [lookS, hk]; exact a4
    ·simp only [updS, hk, a5]; rfl

theorem made_top {g : Gh} {w : World} (hn : ∀ b o, w.heap.size ≤ b → g.lab b o = .free) {el : TypeId} {sz cap d : Nat} {zs : Array Value} (hz : zs.size = cap * sz) :
  Quiet g (g.mark w.heap.size fun _ => .slot d) w (w.alloc (.cells zs el)) ∧ Top (g.mark w.heap.size fun _ => .slot d) (w.alloc (.cells zs el)) d (.sl .tail sz []) (.slice (some ⟨w.heap.size, 0, none⟩) 0 cap) := by
 have q := Quiet.alloc hn (.cells zs el) (fun _ => .slot d)
 refine ⟨q, ?_, .inr rfl, fun k k1 k2 => ?_⟩
 ·have := @Rel.rows (g.mark w.heap.size fun _ => .slot d) (w.alloc (.cells zs el)) .tail sz [] w.heap.size 0 cap (by simp) (fun j c hj => by simp at hj) (fun j c k v hj hk => by simp at hj)
  exact this
 ·refine ⟨?_, ?_, ?_⟩
  ·simp [Gh.mark]
  ·rw [Nat.zero_add]
   rw [World.cell?_alloc_new w zs el k]
   have hs : k < zs.size := by rw [hz]; exact k2
   rw [Array.getElem?_eq_getElem hs]
   rfl
  ·rw [Nat.zero_add]
   exact World.frozen?_alloc_new w zs el k
theorem vMkS_sound {t : TypeId} {l c : Operand} (ho : o.op = .makeSlice t l c) (h : St X.n g w e S a.tmps) (hv : vMkS C X o.dst K e S (ev l e) (ev c e) (C.T t)) (hR : Goes X g w a K R) : o.wp C.P a w R Q := by
 unfold vMkS at hv
 split at hv
 ·rename_i el q r z0 hT
  unfold vMkG at hv
  split at hv
  ·rename_i te k1 m k2 n hte hl hc
   split at hv
   ·rename_i d hd
    obtain ⟨⟨hm, hdn, hn0, hby, hn⟩, hv⟩ := hv
    have hcap9 := (capOf_le te.bytes).2
    subst hm
    have hu := und_slice (C := C) hT rfl
    obtain ⟨i, z, hi, hsz, hbs, hz, hzs, _⟩ := (C.hT _ _ hte).info
    have hl' : a.eval l = .int k1 0 := rel_int (by have := h.ev l; rwa [hl] at this)
    have hc' : a.eval c = .int k2 n := rel_int (by have := h.ev c; rwa [hc] at this)
    have hb2 : (i.bytes : Int) * n ≤ 281474976710656 := by
     have h1 : ((te.bytes * n.toNat : Nat) : Int) ≤ 190000000000000 := Int.ofNat_le.2 (Nat.le_trans hby (capOf_le te.bytes).1)
     rw [Int.natCast_mul, Int.toNat_of_nonneg hn0] at h1
     rw [hbs]
     omega
    have hrun := run_make (P := C.P) w t el i z hu hi hz k1 k2 0 n (Int.le_refl _) hn0 hb2 (by omega)
    obtain ⟨q2, ht⟩ := made_top (g := g) (w := w) (d := d) h.new (el := el) (sz := te.size) (cap := n.toNat) (zs := madeCells z.cells (n.toNat * i.size)) (by rw [size_madeCells, hsz])
    refine vPut_sound hd hdn hv h ?_ q2 ht hR
    simp only [execOp, ho, hl', hc', Sem.run_bind, hrun, Result.andThen_ok, Sem.run_pure, Int.toNat_zero]
   ·exact hv.elim
  ·exact hv.elim
 ·exact hv.elim
theorem vRange_sound {t : TypeId} {x : Operand} (ho : o.op = .range t x) (h : St X.n g w e S a.tmps) (hv : vRange C X t (ev x e) o.dst K e S) (hR : Goes X g w a K R) : o.wp C.P a w R Q := by
 unfold vRange at hv
 split at hv
 ·rename_i q r z s d hT hx hd
  have hu := und_str (C := C) hT rfl
  have hr := h.ev x
  rw [hx] at hr
  have hval := rel_str hr
  refine vPut_sound hd hv.1 (hv.2 w.heap.size) h (rv := .pointer (some ⟨w.heap.size, 0, none⟩)) (w' := w.alloc (.stringIter s 0)) ?_ (Quiet.alloc h.new (.stringIter s 0) (fun _ => .slot d)) ⟨.siter _ _ _, ?_⟩ hR
  ·simp only [execOp, ho, hval, Instr.range, Sem.run_bind, run_underlying hu, Result.andThen_ok, Sem.run_pure, run_newObj_alloc]
  ·exact ⟨fun o => by simp [Gh.mark], (MapKept.heap_alloc w _).1⟩
 ·rename_i id d hx hd
  unfold vRgM at hv
  split at hv
  ·rename_i z cl ks vs hz hm
   obtain ⟨kt, el, ti, hu, hk, _, _⟩ := mapS_some hz
   obtain ⟨⟨hmap, hn, hkn⟩, es, m⟩ := mref_obj h hx (mapAt_some hm)
   refine vPut_sound hd hv.1 (hv.2 w.heap.size) h (rv := .pointer (some ⟨w.heap.size, 0, none⟩)) (w' := w.alloc (.mapIter (some (g.loc id).1) cl #[] cl)) ?_ (Quiet.alloc h.new (.mapIter (some (g.loc id).1) cl #[] cl) (fun _ => .slot d)) ⟨.miter _ _ _ _ _, ?_⟩ hR
   ·simp only [execOp, ho, hmap, Instr.range, Sem.run_bind, run_underlying hu, Result.andThen_ok, Sem.run_pure, MapKept.run_getObj_map m.heap, run_newObj_alloc]
   ·exact ⟨fun o => by simp [Gh.mark], ⟨hn, hkn⟩, (MapKept.heap_alloc w _).1, Nat.le_refl _⟩
  ·exact hv.elim
 ·exact hv.elim

def Gh.moreM (g : Gh) (b : Nat) : Gh := { lab := fun b' o => if b' = b then .obj g.nxt else g.lab b' o, loc := fun id => if id = g.nxt then (b, 0) else g.loc id, nxt := g.nxt + 1, knd := fun id => if id = g.nxt then true else g.knd id }
theorem Quiet.moreM (hn : ∀ b o, w.heap.size ≤ b → g.lab b o = .free) (ob : Obj) : Quiet g (g.moreM w.heap.size) w (w.alloc ob) := by
 have q := Quiet.alloc hn ob (fun _ => .obj g.nxt)
 exact ⟨⟨q.os, q.tape, q.output, q.size, q.frozen, q.foreign, q.own, q.kept, q.mark, q.some, q.block, fun id hi => by simp only [Gh.moreM]; rw [if_neg (by omega)], by simp [Gh.moreM], fun id hi => by simp only [Gh.moreM]; rw [if_neg (by omega)]⟩, q.same, q.new, q.whole⟩
theorem new_map (h : St X.n g w e S a.tmps) {d : Nat} (hd : d < X.n) : Fr g (g.moreM w.heap.size) w (w.alloc (.map #[] 0)) ∧
  St X.n (g.moreM w.heap.size) (w.alloc (.map #[] 0)) (e.put d (.mref g.nxt)) (S.set g.nxt (some [.mcon 0 [] []])) (a.tmps.setIfInBounds d (.map (some w.heap.size))) := by
 have q := Quiet.moreM h.new (.map #[] 0)
 have hl : (g.moreM w.heap.size).loc g.nxt = (w.heap.size, 0) := by simp [Gh.moreM]
 refine ⟨q.toFr, ?_⟩
 have h1 := (h.quiet q).put (d := d) hd (v := .mref g.nxt) (rv := .map (some w.heap.size)) (.ofRel (by
  have := @Rel.mref (g.moreM w.heap.size) (w.alloc (.map #[] 0)) g.nxt (by simp [Gh.moreM]) (by simp [Gh.moreM])
  rw [hl] at this
  exact this) rfl)
 refine { h1 with objs := fun id cells hi => ?_ }
 simp only [Store.set] at hi
 split at hi
 ·rename_i heq
  subst heq
  injection hi with hi
  subst hi
  refine ⟨by simp [Gh.moreM], fun hn => by simp [Gh.moreM] at hn, fun _ => ⟨0, [], [], #[], rfl, fun o => ?_, ?_, rfl, rfl, fun i e v he => by simp at he⟩⟩
  ·rw [hl]; simp [Gh.moreM]
  ·rw [hl]; exact (MapKept.heap_alloc w _).1
 ·exact (h.objs id cells hi).quiet q

theorem vMakeMap_sound {t : TypeId} (ho : o.op = .makeMap t none) (h : St X.n g w e S a.tmps) (hv : vMakeMap X o.dst K e S) (hR : Goes X g w a K R) : o.wp C.P a w R Q := by
 unfold vMakeMap at hv
 split at hv
 ·rename_i d hd
  obtain ⟨hdn, hv⟩ := hv
  split at hv
  ·have hrun : (execOp a.eval o).run C.P w = .ok (.value (.map (some w.heap.size))) (w.alloc (.map #[] 0)) := by
    simp only [execOp, ho, Option.map_none, Instr.makeMap, Sem.run_bind, Result.andThen_ok, Sem.run_pure, run_newObj_alloc]
   obtain ⟨fr, hst⟩ := new_map h hdn
   unfold Oper.wp
   rw [hrun, Oper.upon_value, hd]
   exact hR _ _ _ _ _ (hv g.nxt h.nxtNone) (by rw [put_tmps]; exact hst) (put_defers _ _ _) fr
  refine vPut_sound hd hdn (hv w.heap.size) h (rv := .map (some w.heap.size)) (w' := w.alloc (.map #[] 0)) ?_ (Quiet.alloc h.new (.map #[] 0) (fun _ => .slot d)) ⟨.mapo _ _, ?_⟩ hR
  ·simp only [execOp, ho, Option.map_none, Instr.makeMap, Sem.run_bind, Result.andThen_ok, Sem.run_pure, run_newObj_alloc]
  ·exact ⟨fun o => by simp [Gh.mark], #[], 0, (MapKept.heap_alloc w _).1, rfl⟩
 ·exact hv.elim

theorem vNext_sound {x : Operand} (ho : o.op = .next x true) (h : St X.n g w e S a.tmps) (hv : vNext X x o.dst K e S) (hR : Goes X g w a K R) : o.wp C.P a w R Q := by
 unfold vNext at hv
 split at hv
 ·rename_i s d hd
  split at hv
  ·rename_i b str pos hes
   obtain ⟨⟨hdn, hsn, hne⟩, hv⟩ := hv
   have htop := h.slots s hsn
   have hev : a.eval (.tmp s) = .pointer (some ⟨b, 0, none⟩) := by
    have hr := (h.top s).rel
    rw [hes] at hr
    generalize a.eval (.tmp s) = q at hr
    cases hr
    rfl
   have htl := htop.tail
   rw [hes] at htl
   simp only [Tail] at htl
   obtain ⟨hl, hb⟩ := htl
   have hget : (getObj b).run C.P w = .ok (.stringIter str pos) w := by simp [getObj, Sem.run, hb]
   split at hv
   ·rename_i hlt
    have hset : ∀ y, (setObj b y).run C.P w = .ok () { w with heap := w.heap.setIfInBounds b y } := fun y => by simp [setObj, Sem.run, hb]
    have hrun : (execOp a.eval o).run C.P w = .ok (.value (.tuple #[.bool true, .int .i64 pos, .int .i32 (Utf8.decode str pos).1])) { w with heap := w.heap.setIfInBounds b (.stringIter str (pos + (Utf8.decode str pos).2)) } := by
     simp only [execOp, ho, hev, Instr.next, Sem.run_bind, hget, Result.andThen_ok, hlt, if_true, hset, Sem.run_pure, goInt]
    have hst := h.misc hsn hb (by simp) (by simp) hl (y := .stringIter str (pos + (Utf8.decode str pos).2)) (v := .siter b str (pos + (Utf8.decode str pos).2)) (by
     have : a.tmps.getD s Go.undef = .pointer (some ⟨b, 0, none⟩) := hev
     rw [this]
     exact ⟨.siter _ _ _, hl, (MapKept.heap_set hb).1⟩)
    unfold Oper.wp
    rw [hrun, Oper.upon_value, hd]
    refine hR _ _ g _ _ hv ?_ (put_defers _ _ _) (Fr.misc hb (by simp) (by simp) (by rw [hl 0]; trivial))
    rw [put_tmps]
    refine hst.put hdn (.ofRel (.tup rfl fun k v rv hk hrv => ?_) rfl)
    rcases k with _ | _ | _ | k
    ·simp at hk hrv; subst hk; subst hrv; exact .bool _
    ·simp at hk hrv; subst hk; subst hrv; exact .int _ _
    ·simp at hk hrv; subst hk; subst hrv; exact .int _ _
    ·simp at hk
   ·rename_i hlt
    have hrun : (execOp a.eval o).run C.P w = .ok (.value (.tuple #[.bool false])) w := by
     simp only [execOp, ho, hev, Instr.next, Sem.run_bind, hget, Result.andThen_ok, hlt, if_false, Sem.run_pure]
    refine vPut_sound hd hdn hv h hrun (Quiet.refl h.new) (.ofRel (.tup rfl fun k v rv hk hrv => ?_) rfl) hR
    rcases k with _ | k
    ·simp at hk hrv; subst hk; subst hrv; exact .bool _
    ·simp at hk
  ·exact hv.elim
 ·exact hv.elim

theorem own_tail (h : St X.n g w e S a.tmps) {t b : Nat} {L : List (ByteArray × Value)} (ht : t < X.n) (he : e t = .mapo b L) :
  (∀ o, g.lab b o = .slot t) ∧ ∃ es clock, w.heap[b]? = some (.map es clock) ∧ es.toList.map (fun e => (e.key, e.val)) = L.map fun p => (Value.string p.1, p.2) := by
 have := (h.slots t ht).tail
 rw [he] at this
 simpa only [Tail] using this
theorem ev_map (h : St X.n g w e S a.tmps) {x : Operand} {b : Nat} (hx : ev x e = .mapr b) : a.eval x = .map (some b) := by
 have hr := h.ev x
 rw [hx] at hr
 generalize a.eval x = q at hr
 cases hr
 rfl

theorem vLookup_sound {t : TypeId} {x i : Operand} {ok : Bool} (ho : o.op = .lookup t x i ok) (h : St X.n g w e S a.tmps) (hv : vLookup C X t (ev x e) (ev i e) ok o.dst K e S) (hR : Goes X g w a K R) : o.wp C.P a w R Q := by
 unfold vLookup at hv
 split at hv
 ·rename_i z b k d hz hx hi hd
  obtain ⟨hdn, s, L, hsn, hes, hv⟩ := hv
  obtain ⟨kt, el, ti, hu, hk, hinfo, hzero⟩ := mapS_some hz
  obtain ⟨hl, es, clock, hb, hes2⟩ := own_tail h hsn hes
  have hmap := ev_map h hx
  have hkey : a.eval i = .string k := by
   have hr := h.ev i
   rw [hi] at hr
   exact rel_str hr
  have hzr : (zeroValue el).run C.P w = .ok z w := by simp [zeroValue, typeInfo, hinfo, hzero, Sem.run_bind, Result.andThen]
  have hrun : (execOp a.eval o).run C.P w = .ok (.value (if ok then .tuple #[(lookS k L).getD z, .bool (lookS k L).isSome] else (lookS k L).getD z)) w := by
   rcases findNow_look k es.toList L 0 hes2 with ⟨f1, f2, _⟩ | ⟨j, e', f1, _, _, f2, _⟩
   ·simp only [execOp, ho, hmap, hkey, Instr.lookup, Sem.run_bind, run_underlying hu, Result.andThen_ok, MapKept.run_getObj_map hb, Sem.run_pure, MapKept.run_checkKey hk (show MapKept.IsKey .string (.string k) from trivial), MapKept.run_findKey hk f1, hzr, f2]
    cases ok <;> rfl
   ·simp only [execOp, ho, hmap, hkey, Instr.lookup, Sem.run_bind, run_underlying hu, Result.andThen_ok, MapKept.run_getObj_map hb, Sem.run_pure, MapKept.run_checkKey hk (show MapKept.IsKey .string (.string k) from trivial), MapKept.run_findKey hk f1, f2]
    cases ok <;> rfl
  refine vPut_sound hd hdn hv h hrun (Quiet.refl h.new) ?_ hR
  obtain ⟨r1, r2⟩ := rel_ofVal (g := g) (w := w) ((lookS k L).getD z)
  cases ok
  ·exact .ofRel r1 r2
  ·refine .ofRel (.tup rfl fun k' v rv hk' hrv => ?_) rfl
   rcases k' with _ | _ | k'
   ·simp at hk' hrv; subst hk'; subst hrv; exact r1
   ·simp at hk' hrv; subst hk'; subst hrv; exact .bool _
   ·simp at hk'
 ·rename_i id hx
  unfold vLkO at hv
  split at hv
  ·rename_i z k d cl ks vs hz hi hd hm
   obtain ⟨kt, el, ti, hu, hk, hinfo, hzero⟩ := mapS_some hz
   obtain ⟨⟨hmap, hn, hkn⟩, es, m⟩ := mref_obj h hx (mapAt_some hm)
   have hkey : a.eval i = .string k := by
    have hr := h.ev i
    rw [hi] at hr
    exact rel_str hr
   have hzr : (zeroValue el).run C.P w = .ok z w := by simp [zeroValue, typeInfo, hinfo, hzero, Sem.run_bind, Result.andThen]
   obtain ⟨rz, bz⟩ := rel_pvZ (g := g) (w := w) z
   have hsz := m.size
   have key : ∃ u : Option Value, (execOp a.eval o).run C.P w = .ok (.value (if ok then .tuple #[u.getD z, .bool u.isSome] else u.getD z)) w ∧ (lookM k ks vs).isSome = u.isSome ∧ Rel g w ((lookM k ks vs).getD (pvZ z)) (u.getD z) ∧ ((lookM k ks vs).getD (pvZ z)).bare = (lookM k ks vs).getD (pvZ z) := by
    rcases findNow_idx k es.toList ks 0 m.keys with ⟨f1, f2⟩ | ⟨j, e', f1, f4, f5, f2⟩
    ·refine ⟨none, ?_, by simp [lookM, f2], by simpa [lookM, f2] using rz, by simpa [lookM, f2] using bz⟩
     simp only [execOp, ho, hmap, hkey, Instr.lookup, Sem.run_bind, run_underlying hu, Result.andThen_ok, MapKept.run_getObj_map m.heap, Sem.run_pure, MapKept.run_checkKey hk (show MapKept.IsKey .string (.string k) from trivial), MapKept.run_findKey hk f1, hzr]
     cases ok <;> rfl
    ·simp only [Nat.zero_add] at f1 f2
     have hj : es[j]? = some e' := by simpa using f4
     have hjl : j < es.size := (Array.getElem?_eq_some_iff.1 hj).1
     have hvj : vs[j]? = some (vs[j]'(by have := m.len; omega)) := List.getElem?_eq_getElem _
     obtain ⟨q1, q2⟩ := m.vals j e' _ hj hvj
     have hlk : lookM k ks vs = some (vs[j]'(by have := m.len; omega)) := by unfold lookM; rw [f2]; exact hvj
     refine ⟨some e'.val, ?_, by rw [hlk]; rfl, by rw [hlk]; exact q1, by rw [hlk]; exact q2⟩
     simp only [execOp, ho, hmap, hkey, Instr.lookup, Sem.run_bind, run_underlying hu, Result.andThen_ok, MapKept.run_getObj_map m.heap, Sem.run_pure, MapKept.run_checkKey hk (show MapKept.IsKey .string (.string k) from trivial), MapKept.run_findKey hk f1]
     cases ok <;> rfl
   obtain ⟨u, hrun, his, r1, r2⟩ := key
   refine vPut_sound hd hv.1 hv.2 h hrun (Quiet.refl h.new) ?_ hR
   unfold lkM
   cases ok
   ·exact .ofRel r1 r2
   ·refine .ofRel (.tup rfl fun k' v rv hk' hrv => ?_) rfl
    rcases k' with _ | _ | k'
    ·simp at hk' hrv; subst hk'; subst hrv; exact r1
    ·simp at hk' hrv; subst hk'; subst hrv; rw [his]; exact .bool _
    ·simp at hk'
  ·exact hv.elim
 ·rename_i hx
  unfold vLkO at hv
  split at hv
  ·rename_i z k d cl ks vs hz hi hd hm
   injection hm with hm
   injection hm with _ hm
   injection hm with h1 h2
   subst h1; subst h2
   obtain ⟨kt, el, ti, hu, hk, hinfo, hzero⟩ := mapS_some hz
   have hmap : a.eval x = .map none := by
    have hr := h.ev x
    rw [hx] at hr
    generalize a.eval x = q at hr
    cases hr
    rfl
   have hkey : a.eval i = .string k := by
    have hr := h.ev i
    rw [hi] at hr
    exact rel_str hr
   have hzr : (zeroValue el).run C.P w = .ok z w := by simp [zeroValue, typeInfo, hinfo, hzero, Sem.run_bind, Result.andThen]
   obtain ⟨rz, bz⟩ := rel_pvZ (g := g) (w := w) z
   have f1 : Instr.findNow .string (.string k) [] 0 = some none := rfl
   have hrun : (execOp a.eval o).run C.P w = .ok (.value (if ok then .tuple #[z, .bool false] else z)) w := by
    simp only [execOp, ho, hmap, hkey, Instr.lookup, Sem.run_bind, run_underlying hu, Result.andThen_ok, Sem.run_pure, MapKept.run_checkKey hk (show MapKept.IsKey .string (.string k) from trivial), MapKept.run_findKey hk f1, hzr]
   refine vPut_sound hd hv.1 hv.2 h hrun (Quiet.refl h.new) ?_ hR
   unfold lkM lookM
   cases ok
   ·exact .ofRel rz bz
   ·refine .ofRel (.tup rfl fun k' v rv hk' hrv => ?_) rfl
    rcases k' with _ | _ | k'
    ·simp [idxM] at hk' hrv; subst hk'; subst hrv; exact rz
    ·simp [idxM] at hk' hrv; subst hk'; subst hrv; exact .bool _
    ·simp at hk'
  ·exact hv.elim
 ·exact hv.elim

theorem vMapUpd_sound {t : TypeId} {m k v : Operand} (ho : o.op = .mapUpdate t m k v) (h : St X.n g w e S a.tmps) (hv : vMapUpd C X t (ev m e) (ev k e) (valOf (ev v e)) (ev v e) o.dst K e S) (hR : Goes X g w a K R) : o.wp C.P a w R Q := by
 unfold vMapUpd at hv
 split at hv
 ·rename_i z b ky u hz hx hi hu2 hd
  obtain ⟨s, L, hsn, hes, hv⟩ := hv
  obtain ⟨kt, el, ti, hu, hk, _, _⟩ := mapS_some hz
  obtain ⟨hl, es, clock, hb, hes2⟩ := own_tail h hsn hes
  have hmap := ev_map h hx
  have hkey : a.eval k = .string ky := by
   have hr := h.ev k
   rw [hi] at hr
   exact rel_str hr
  have hval : a.eval v = u := rel_valOf hu2 (h.ev v)
  have hs2 : a.tmps.getD s Go.undef = .map (some b) := by
   have hr := (h.slots s hsn).rel
   rw [hes] at hr
   generalize a.tmps.getD s Go.undef = q at hr
   cases hr
   rfl
  have fin : ∀ es' clock', (execOp a.eval o).run C.P w = .ok .skip { w with heap := w.heap.setIfInBounds b (.map es' clock') } → es'.toList.map (fun e => (e.key, e.val)) = (updS ky u L).map (fun p => (Value.string p.1, p.2)) → o.wp C.P a w R Q := by
   intro es' clock' hrun hmapd
   unfold Oper.wp
   rw [hrun, Oper.upon_skip, hd]
   refine hR _ _ g _ a hv ?_ rfl (Fr.misc hb (by simp) (by simp) (by rw [hl 0]; trivial))
   refine h.misc hsn hb (by simp) (by simp) hl ?_
   rw [hs2]
   exact ⟨.mapo _ _, hl, es', clock', (MapKept.heap_set hb).1, hmapd⟩
  rcases findNow_look ky es.toList L 0 hes2 with ⟨f1, _, f3⟩ | ⟨j, e', f1, f4, f5, _, f3⟩
  ·refine fin (es.push { key := .string ky, val := u, born := clock }) (clock + 1) ?_ ?_
   ·simp only [execOp, ho, hmap, hkey, hval, Instr.mapUpdate, Sem.run_bind, run_underlying hu, Result.andThen_ok, MapKept.run_getObj_map hb, Sem.run_pure, MapKept.run_checkKey hk (show MapKept.IsKey .string (.string ky) from trivial), MapKept.run_findKey hk f1, MapKept.run_setObj_map _ hb]
   ·rw [f3, List.map_append, ← hes2]
    simp
  ·have hj : es[j]? = some e' := by simpa using f4
   simp only [Nat.zero_add] at f1
   refine fin (es.modify j fun e0 => { e0 with key := .string ky, val := u }) clock ?_ ?_
   ·simp only [execOp, ho, hmap, hkey, hval, Instr.mapUpdate, Sem.run_bind, run_underlying hu, Result.andThen_ok, MapKept.run_getObj_map hb, Sem.run_pure, MapKept.run_checkKey hk (show MapKept.IsKey .string (.string ky) from trivial), MapKept.run_findKey hk f1, hj, Option.map_some, Option.getD_some, f5, MapKept.run_keyThatStays (show MapKept.IsKey .string (.string ky) from trivial), MapKept.run_setObj_map _ hb]
   ·rw [f3]
    apply List.ext_getElem?
    intro q
    have hq := congrArg (fun l : List (Value × Value) => l[q]?) hes2
    simp only [List.getElem?_map] at hq
    simp only [List.getElem?_map, Array.getElem?_toList, Array.getElem?_modify, List.getElem?_set]
    by_cases hjq : j = q
    ·subst hjq
     have hlt : j < L.length := by
      rw [f4] at hq
      cases hL : L[j]? with
      | none => rw [hL] at hq; cases hq
      | some p => exact (List.getElem?_eq_some_iff.1 hL).1
     simp [hj, hlt]
    ·simp only [hjq, if_false]
     simpa using hq
 ·rename_i id hx
  unfold vMuO at hv
  split at hv
  ·rename_i z ky cl ks vs hz hi hd hm
   obtain ⟨kt, el, ti, hu, hk, _, _⟩ := mapS_some hz
   obtain ⟨⟨hmap, hn, hkn⟩, es, m⟩ := mref_obj h hx (mapAt_some hm)
   have hkey : a.eval k = .string ky := by
    have hr := h.ev k
    rw [hi] at hr
    exact rel_str hr
   have hrv : Rel g w (ev v e).bare (a.eval v) := (h.ev v).bare
   have hsz := m.size
   have hln := m.len
   have fin : ∀ es' cl' ks' vs', updM ky (ev v e).bare cl ks vs = .mcon cl' ks' vs' → (execOp a.eval o).run C.P w = .ok .skip { w with heap := w.heap.setIfInBounds (g.loc id).1 (.map es' cl') } → es'.toList.map (fun e => (e.born, e.key)) = ks'.map (fun k => (k.1, Value.string k.2)) → vs'.length = ks'.length →
     (∀ (i : Nat) (e : MapEntry) (v : PV), es'[i]? = some e → vs'[i]? = some v → Rel g w v e.val ∧ v.bare = v) → o.wp C.P a w R Q := by
    intro es' cl' ks' vs' hsh hrun h1 h2 h3
    obtain ⟨fr, hst⟩ := h.miscObj hn hkn m (cl' := cl') h1 h2 h3
    unfold Oper.wp
    rw [hrun, Oper.upon_skip, hd]
    rw [hsh] at hv
    exact hR _ _ g _ _ hv hst rfl fr
   rcases findNow_idx ky es.toList ks 0 m.keys with ⟨f1, f2⟩ | ⟨j, e', f1, f4, f5, f2⟩
   ·refine fin (es.push { key := .string ky, val := a.eval v, born := cl }) (cl + 1) (ks ++ [(cl, ky)]) (vs ++ [(ev v e).bare]) (by unfold updM; rw [f2]) ?_ ?_ (by simp [hln]) (fun i e0 v0 he hvv => ?_)
    ·simp only [execOp, ho, hmap, hkey, Instr.mapUpdate, Sem.run_bind, run_underlying hu, Result.andThen_ok, MapKept.run_getObj_map m.heap, Sem.run_pure, MapKept.run_checkKey hk (show MapKept.IsKey .string (.string ky) from trivial), MapKept.run_findKey hk f1, MapKept.run_setObj_map _ m.heap]
    ·rw [List.map_append, ← m.keys]
     simp
    ·rw [Array.getElem?_push] at he
     split at he
     ·rename_i hie
      injection he with he
      subst he
      rw [hie, List.getElem?_append_right (by omega)] at hvv
      simp [hsz, hln] at hvv
      rw [← hvv]
      exact ⟨hrv, PV.bare_bare _⟩
     ·have hlt := (Array.getElem?_eq_some_iff.1 he).1
      rw [List.getElem?_append_left (by omega)] at hvv
      exact m.vals i e0 v0 he hvv
   ·simp only [Nat.zero_add] at f1 f2
    have hj : es[j]? = some e' := by simpa using f4
    have hjl : j < es.size := (Array.getElem?_eq_some_iff.1 hj).1
    refine fin (es.modify j fun e0 => { e0 with key := .string ky, val := a.eval v }) cl ks (vs.set j (ev v e).bare) (by unfold updM; rw [f2]) ?_ ?_ (by simp [hln]) (fun i e0 v0 he hvv => ?_)
    ·simp only [execOp, ho, hmap, hkey, Instr.mapUpdate, Sem.run_bind, run_underlying hu, Result.andThen_ok, MapKept.run_getObj_map m.heap, Sem.run_pure, MapKept.run_checkKey hk (show MapKept.IsKey .string (.string ky) from trivial), MapKept.run_findKey hk f1, hj, Option.map_some, Option.getD_some, f5, MapKept.run_keyThatStays (show MapKept.IsKey .string (.string ky) from trivial), MapKept.run_setObj_map _ m.heap]
    ·rw [← m.keys]
     apply List.ext_getElem?
     intro q
     simp only [List.getElem?_map, Array.getElem?_toList, Array.getElem?_modify]
     by_cases hjq : j = q
     ·subst hjq
      simp [hj, f5]
     ·simp [hjq]
    ·rw [Array.getElem?_modify] at he
     rw [List.getElem?_set] at hvv
     split at he
     ·rename_i hji
      rw [if_pos hji] at hvv
      subst hji
      rw [hj] at he
      simp only [Option.map_some, Option.some.injEq] at he
      subst he
      rw [if_pos (by omega)] at hvv
      injection hvv with hvv
      rw [← hvv]
      exact ⟨hrv, PV.bare_bare _⟩
     ·rename_i hji
      rw [if_neg hji] at hvv
      exact m.vals i e0 v0 he hvv
  ·exact hv.elim
 ·exact hv.elim

theorem miter_tail (h : St X.n g w e S a.tmps) {s b id since last : Nat} {seen : List Nat} (hs : s < X.n) (hes : e s = .miter b id since last seen) :
  a.eval (.tmp s) = .pointer (some ⟨b, 0, none⟩) ∧ (∀ o, g.lab b o = .slot s) ∧ (id < g.nxt ∧ g.knd id = true) ∧ w.heap[b]? = some (.mapIter (some (g.loc id).1) since seen.toArray last) ∧ since ≤ last := by
 have htop := h.slots s hs
 rw [hes] at htop
 have htl := htop.tail
 simp only [Tail] at htl
 refine ⟨?_, htl⟩
 have hr := htop.rel
 show a.tmps.getD s Go.undef = _
 generalize a.tmps.getD s Go.undef = q at hr
 cases hr
 rfl
theorem mobj_of (h : St X.n g w e S a.tmps) {id cl : Nat} {ks : List (Nat × ByteArray)} {vs : List PV} (hk : g.knd id = true) (hS : S id = some [.mcon cl ks vs]) : ∃ es, MObj g w id cl ks vs es := by
 obtain ⟨cl', ks', vs', es, h1, h2, h3, h4, h5, h6⟩ := (h.objs id _ hS).mp hk
 simp only [List.cons.injEq, PV.mcon.injEq, and_true] at h1
 obtain ⟨rfl, rfl, rfl⟩ := h1
 exact ⟨es, h2, h3, h4, h5, h6⟩
theorem MObj.entry {id cl : Nat} {ks : List (Nat × ByteArray)} {vs : List PV} {es : Array MapEntry} (m : MObj g w id cl ks vs es) {e' : MapEntry} (he : e' ∈ es.toList) : ∃ (j : Nat) (k : ByteArray) (v : PV), es[j]? = some e' ∧ ks[j]? = some (e'.born, k) ∧ vs[j]? = some v ∧ e'.key = .string k ∧ Rel g w v e'.val ∧ v.bare = v := by
 obtain ⟨j, hj⟩ := List.mem_iff_getElem?.1 he
 have hj' : es[j]? = some e' := by simpa using hj
 have hjl : j < es.size := (Array.getElem?_eq_some_iff.1 hj').1
 have hsz := m.size
 have hln := m.len
 have hq := congrArg (fun l => l[j]?) m.keys
 simp only [List.getElem?_map, hj, Option.map_some] at hq
 have hkj : ks[j]? = some ks[j] := List.getElem?_eq_getElem (by omega)
 rw [hkj] at hq
 simp only [Option.map_some, Option.some.injEq, Prod.mk.injEq] at hq
 have hvj : vs[j]? = some vs[j] := List.getElem?_eq_getElem (by omega)
 obtain ⟨r1, r2⟩ := m.vals j e' _ hj' hvj
 exact ⟨j, ks[j].2, vs[j], hj', by rw [hkj, hq.1], hvj, hq.2, r1, r2⟩
theorem pair_rel {f : PV} {b : Value} {k : ByteArray} {v : PV} {rv : Value} (hf : Rel g w f b) (hr : Rel g w v rv) : Rel g w (.tup [f, .str k, v]) (.tuple #[b, .string k, rv]) := by
 refine .tup rfl fun k' u ru hk' hru => ?_
 rcases k' with _ | _ | _ | k'
 ·simp at hk' hru; subst hk'; subst hru; exact hf
 ·simp at hk' hru; subst hk'; subst hru; exact .str _
 ·simp at hk' hru; subst hk'; subst hru; exact hr
 ·simp at hk'
theorem vNextM_sound {x : Operand} (ho : o.op = .next x false) (h : St X.n g w e S a.tmps) (hv : vNextM X x o.dst K e S) (hR : Goes X g w a K R) : o.wp C.P a w R Q := by
 unfold vNextM at hv
 split at hv
 ·rename_i s d hd
  split at hv
  ·rename_i b id since last seen hes
   unfold vNxM at hv
   split at hv
   ·rename_i cl ks vs hm
    obtain ⟨⟨hdn, hsn, hne⟩, ⟨hsc, hold⟩, hover, hgo⟩ := hv
    obtain ⟨hev, hl, ⟨hn, hkn⟩, hb, hsl⟩ := miter_tail h hsn hes
    obtain ⟨es, m⟩ := mobj_of h hkn (mapAt_some hm)
    have holdE : ∀ x ∈ es.toList, x.born < since := fun x hx => by
     obtain ⟨j, k, v, _, h2, _⟩ := m.entry hx
     exact hold _ (List.mem_of_getElem? h2)
    rcases run_next_at (P := C.P) w (0 : TypeId) b (g.loc id).1 since last seen.toArray es cl hb m.heap holdE hsl with ⟨h0, hrun⟩ | ⟨e', he', w1, hw1, hrun⟩
    ·have hall : (ks.all fun k => seen.contains k.1) = true := by
      rw [List.all_eq_true]
      intro k hk
      obtain ⟨j, hj⟩ := List.mem_iff_getElem?.1 hk
      have hjk : j < ks.length := (List.getElem?_eq_some_iff.1 hj).1
      have hsz := m.size
      have hje : es.toList[j]? = some (es.toList[j]'(by simp; omega)) := List.getElem?_eq_getElem _
      have hq := congrArg (fun l => l[j]?) m.keys
      simp only [List.getElem?_map, hje, hj, Option.map_some, Option.some.injEq, Prod.mk.injEq] at hq
      cases hc : seen.contains k.1 with
      | true => rfl
      | false =>
       exfalso
       have hmem : (es.toList[j]'(by simp; omega)) ∈ (leftOf es seen.toArray).toList := by
        unfold leftOf
        rw [Array.toList_filter, List.mem_filter]
        refine ⟨List.getElem_mem _, ?_⟩
        have hnm : k.1 ∉ seen := by simpa using hc
        rw [hq.1]
        simpa using hnm
       have := List.length_pos_of_mem hmem
       rw [Array.length_toList] at this
       omega
     refine vPut_sound hd hdn (hover hall) h (rv := .tuple #[.bool false]) ?_ (Quiet.refl h.new) (.ofRel (.tup rfl fun k v rv hk hrv => ?_) rfl) hR
     ·simp only [execOp, ho, hev, Sem.run_bind, Sem.run_pure, Result.andThen_ok]
      rw [show Instr.next (.pointer (some ⟨b, 0, none⟩)) false o.type = Instr.next (.pointer (some ⟨b, 0, none⟩)) false 0 from rfl, hrun]
      rfl
     ·rcases k with _ | k
      ·simp at hk hrv; subst hk; subst hrv; exact .bool _
      ·simp at hk
    ·have hmem := he'
     unfold leftOf at hmem
     rw [Array.toList_filter, List.mem_filter] at hmem
     obtain ⟨j, k, v, h1, h2, h3, h4, h5, h6⟩ := m.entry hmem.1
     have hnc : seen.contains e'.born = false := by
      have := hmem.2
      simpa using this
     have hvK := hgo j e'.born k v h2 h3 hnc
     -- the world behind: one draw perhaps, then the iterator's block
     have q1 : Quiet g g w w1 := by
      rcases hw1 with rfl | rfl
      ·exact Quiet.refl h.new
      ·exact Quiet.drew h.new
     have hst1 := h.quiet q1
     have hb1 : w1.heap[b]? = some (.mapIter (some (g.loc id).1) since seen.toArray last) := by rcases hw1 with rfl | rfl <;> exact hb
     have hst := hst1.misc hsn hb1 (by simp) (by simp) hl (y := .mapIter (some (g.loc id).1) since (seen.toArray.push e'.born) cl) (v := .miter b id since cl (seen ++ [e'.born])) (by
      have : a.tmps.getD s Go.undef = .pointer (some ⟨b, 0, none⟩) := hev
      rw [this]
      refine ⟨.miter _ _ _ _ _, hl, ⟨hn, hkn⟩, ?_, hsc⟩
      rw [(MapKept.heap_set hb1).1]
      simp)
     have fr := (q1.toFr).trans (Fr.misc (y := .mapIter (some (g.loc id).1) since (seen.toArray.push e'.born) cl) hb1 (by simp) (by simp) (by rw [hl 0]; trivial))
     have hrun2 : (execOp a.eval o).run C.P w = .ok (.value (.tuple #[.bool true, .string k, e'.val])) { w1 with heap := w1.heap.setIfInBounds b (.mapIter (some (g.loc id).1) since (seen.toArray.push e'.born) cl) } := by
      simp only [execOp, ho, hev, Sem.run_bind, Sem.run_pure, Result.andThen_ok]
      rw [show Instr.next (.pointer (some ⟨b, 0, none⟩)) false o.type = Instr.next (.pointer (some ⟨b, 0, none⟩)) false 0 from rfl, hrun, h4]
      rfl
     unfold Oper.wp
     rw [hrun2, Oper.upon_value, hd]
     refine hR _ _ g _ _ hvK ?_ (put_defers _ _ _) fr
     rw [put_tmps]
     exact hst.put hdn (.ofRel (pair_rel (.bool _) (h5.mono fr)) rfl)
   ·exact hv.elim
  ·exact hv.elim
 ·exact hv.elim
theorem vEntry_sound {x : Operand} (ho : o.op = .entry x) (h : St X.n g w e S a.tmps) (hv : vEntry X x o.dst K e S) (hR : Goes X g w a K R) : o.wp C.P a w R Q := by
 unfold vEntry at hv
 split at hv
 ·rename_i s d hd
  split at hv
  ·rename_i b id since last seen hes
   unfold vEnM at hv
   split at hv
   ·rename_i cl ks vs hm
    obtain ⟨j, st, k, v, ⟨hcl, hlast, hkj, hvj, hdn, hsn⟩, hnd, hvK⟩ := hv
    subst hcl
    obtain ⟨hev, hl, ⟨hn, hkn⟩, hb, hsl⟩ := miter_tail h hsn hes
    obtain ⟨es, m⟩ := mobj_of h hkn (mapAt_some hm)
    have hsz := m.size
    have hjk : j < ks.length := (List.getElem?_eq_some_iff.1 hkj).1
    have hje : es.toList[j]? = some (es.toList[j]'(by simp; omega)) := List.getElem?_eq_getElem _
    have hq := congrArg (fun l => l[j]?) m.keys
    simp only [List.getElem?_map, hje, hkj, Option.map_some, Option.some.injEq, Prod.mk.injEq] at hq
    obtain ⟨r1, r2⟩ := m.vals j _ v (by rw [← Array.getElem?_toList]; exact hje) hvj
    have hseen : seen.toArray = seen.dropLast.toArray.push (es.toList[j]'(by simp; omega)).born := by
     rw [hq.1]
     obtain ⟨ys, hys⟩ := List.getLast?_eq_some_iff.1 hlast
     apply Array.ext'
     rw [hys]
     simp
    rw [hseen] at hb
    have hrun := run_entry_at (P := C.P) w b (g.loc id).1 since seen.dropLast.toArray es cl _ hb m.heap (List.getElem_mem _) (by
     have : es.toList.map (fun e => e.born) = ks.map fun k => k.1 := by
      have := congrArg (List.map Prod.fst) m.keys
      simpa [List.map_map, Function.comp_def] using this
     rw [this]
     exact hnd)
    refine vPut_sound hd hdn hvK h ?_ (Quiet.refl h.new) (.ofRel (.tup rfl fun k' u ru hk' hru => ?_) rfl) (rv := .tuple #[.string k, (es.toList[j]'(by simp; omega)).val]) hR
    ·simp only [execOp, ho, hev, Sem.run_bind, Sem.run_pure, Result.andThen_ok, hrun, hq.2]
    ·rcases k' with _ | _ | k'
     ·simp at hk' hru; subst hk'; subst hru; exact .str _
     ·simp at hk' hru; subst hk'; subst hru; simpa using r1
     ·simp at hk'
   ·exact hv.elim
  ·exact hv.elim
 ·exact hv.elim

theorem vop_sound (h : St X.n g w e S a.tmps) (hv : vop C X o K e S) (hR : Goes X g w a K R) : o.wp C.P a w R Q := by
 unfold vop at hv
 split at hv
 ·rename_i ho; exact vAlloc_sound ho h hv hR
 ·rename_i ho; exact vBox_sound ho h hv hR
 ·rename_i ho; exact vStore_sound ho h hv hR
 ·rename_i ho; exact vLoad_sound ho h hv hR
 ·rename_i ho; exact vMove_sound (.inl ho) h hv hR
 ·rename_i ho; exact vMove_sound (.inr ho) h hv hR
 ·rename_i ho; exact vCall_sound ho h hv hR
 ·rename_i ho; exact vBin_sound ho h hv hR
 ·rename_i ho; exact vBuild_sound ho h hv hR
 ·rename_i ho; exact vRange_sound ho h hv hR
 ·rename_i ho; exact vNext_sound ho h hv hR
 ·rename_i ho; exact vNextM_sound ho h hv hR
 ·rename_i ho; exact vEntry_sound ho h hv hR
 ·rename_i ho; exact vMakeMap_sound ho h hv hR
 ·rename_i ho; exact vLookup_sound ho h hv hR
 ·rename_i ho; exact vMapUpd_sound ho h hv hR
 ·rename_i ho; exact vMkS_sound ho h hv hR
 ·exact vPop_sound h hv hR

/-- Is an operation done? -/
def vguard (all : List Oper) (o : Oper) (e : Env) : Option Bool :=
 match o.guard with
 | none => some true
 | some (j, want) => (match (all[j]?).bind (·.dst) with
  | some d => (match e d with
   | .bool b => some (b == want)
   | .tup [] => some false
   | _ => none)
  | none => none)

theorem vguard_sound {all : Array Oper} {b : Bool} (h : St X.n g w e S a.tmps) (hg : vguard all.toList o e = some b) : Region.wanted o (yielded all a.tmps) = b := by
 unfold vguard at hg
 unfold Region.wanted
 split at hg
 ·rename_i hn; rw [hn]; injection hg
 ·rename_i j want hs
  rw [hs]
  dsimp only
  split at hg
  ·rename_i d hd
   have hd' : (all[j]?).bind (·.dst) = some d := by rw [← Array.getElem?_toList]; exact hd
   have htop := h.top d
   have hev : ∀ v, a.eval (.tmp d) = v → v ≠ Go.undef → a.tmps[d]? = some v := by
    intro v hv hne
    simp only [Act.eval, Array.getD_eq_getD_getElem?] at hv
    cases hq : a.tmps[d]? with
    | none => rw [hq] at hv; exact absurd hv.symm hne
    | some u => rw [hq] at hv; simpa using hv
   split at hg
   ·rename_i q hq
    injection hg with hg
    rw [hq] at htop
    have := rel_bool htop.rel
    have h2 := hev _ this (by simp [Go.undef])
    unfold yielded
    simp only [hd', Option.bind_some, h2]
    rw [← hg]
    cases q <;> cases want <;> rfl
   ·rename_i hq
    injection hg with hg
    rw [hq] at htop
    have hz : a.eval (.tmp d) = .tuple #[] := by
     have := htop.rel
     generalize a.eval (.tmp d) = v at this
     cases this with
     | @tup _ us hl _ =>
      congr 1
      apply Array.ext'
      have : us.size = 0 := by simpa using hl.symm
      simpa using this
    unfold yielded
    simp only [hd', Option.bind_some]
    rw [← hg]
    simp only [Act.eval, Array.getD_eq_getD_getElem?] at hz
    cases hq2 : a.tmps[d]? with
    | none => rfl
    | some u => rw [hq2] at hz; simp at hz; subst hz; rfl
   ·cases hg
  ·cases hg

def vops (C : Ctx) (X : Fx) (all : List Oper) (K : Env → Store → Prop) : List Oper → Env → Store → Prop
 | [], e, S => K e S
 | o :: os, e, S => (match vguard all o e with
  | some true => vop C X o (vops C X all K os) e S
  | some false => if dstOk X o.dst then vops C X all K os (e.putO o.dst (.tup [])) S else False
  | none => False)

theorem St.skip (h : St X.n g w e S a.tmps) {d : Option Nat} (hd : dstOk X d = true) : St X.n g w (e.putO d (.tup [])) S (a.put d Go.undef).tmps := by
 cases d with
 | none => exact h
 | some d => exact h.put (by simpa [dstOk] using hd) ⟨.tup (by simp) (by simp), by simp [Tail]⟩

theorem vops_sound {all : Array Oper} : ∀ (os : List Oper) {g : Gh} {w : World} {e : Env} {S : Store} {a : Act}, St X.n g w e S a.tmps → vops C X all.toList K os e S →
  Goes X g w a K (fun a' w' => Q .normal a' w') → wpList C.P all Q os a w
 | [], g, w, e, S, a, h, hv, hR => hR e S g w a hv h rfl (Fr.refl g w)
 | o :: os, g, w, e, S, a, h, hv, hR => by
  unfold vops at hv
  unfold wpList
  split at hv
  ·rename_i hg
   rw [if_pos (vguard_sound h hg)]
   refine .inl (vop_sound h hv ?_)
   intro e' S' g' w' a' hK hst hd fr
   refine vops_sound os hst hK ?_
   intro e2 S2 g2 w2 a2 hK2 hst2 hd2 fr2
   exact hR e2 S2 g2 w2 a2 hK2 hst2 (hd2.trans hd) (fr.trans fr2)
  ·rename_i hg
   rw [if_neg (by rw [vguard_sound h hg]; simp)]
   split at hv
   ·rename_i hd
    refine vops_sound os (h.skip hd) hv ?_
    intro e2 S2 g2 w2 a2 hK2 hst2 hd2 fr2
    exact hR e2 S2 g2 w2 a2 hK2 hst2 (hd2.trans (put_defers _ _ _)) fr2
   ·exact hv.elim
  ·exact hv.elim

end
end Go.VL

/- VL, part 16: regions that draw their order, of operations that leave what is owned as it was. -/
namespace Go.VL
open Go

/-- A call that answers, and leaves the objects as they were. -/
def PRet (P : Program) (f : FuncId) (args : List PV) (S : Store) (v : PV) : Prop := ∀ K : PV → Store → Prop, K v S → PCalls P f args S K

def opTmps (xs : List Operand) : List Nat := xs.filterMap fun | .tmp t => some t | _ => none
def looks (all : List Oper) (o : Oper) : List Nat :=
 opTmps o.op.operands.toList ++ (match o.guard with | some (j, _) => (((all[j]?).bind (·.dst)).toList) | none => [])
def edgesOf (o : Oper) : List Nat := (o.after.toList.filter (Region.binds .any)).map (·.on)
def maskOf (acc : List Nat) (o : Oper) : Nat := (edgesOf o).foldl (fun s i => s ||| 2 ^ i ||| acc.getD i 0) 0
def befGo (acc : List Nat) : List Oper → List Nat
 | [] => acc
 | o :: os => befGo (acc ++ [maskOf acc o]) os
/-- The slot that an operation turns: its own, or that of a new variable that it gives its first value. -/
def ods (o : Oper) : Option Nat :=
 match o.dst with
 | some d => some d
 | none => (match o.op with | .store _ (.tmp s) _ => some s | _ => none)
theorem ods_some {o : Oper} {d : Nat} (h : o.dst = some d) : ods o = some d := by unfold ods; rw [h]
/-- The slot whose flag an operation takes over. -/
def mvr (X : Fx) (o : Oper) : Option Nat :=
 match o.op, o.dst with
 | .move (.tmp s), some d => if X.mv d then some s else none
 | .assign (.tmp s), some d => if X.mv d then some s else none
 | .call ⟨.builtin .append, xs, _⟩, some _ => (match xs.toList with | .tmp s :: _ => some s | _ => none)
 | _, _ => none
/-- The slots, when an operation has answered. -/
def effG (m : Option Nat) (d : Nat) (e : Env) (v : PV) : Env :=
 match m with
 | some s => (e.put s (e s).bare).put d v
 | none => e.put d v
/-- The slots that an operation turns. -/
def wrs (X : Fx) (o : Oper) : List Nat := (ods o).toList ++ (mvr X o).toList
def drawOk (X : Fx) (all : List Oper) : Bool :=
 let b := befGo [] all
 (all.all fun o => (ods o).isSome) && (all.zipIdx.all fun (o, j) => (edgesOf o).all (fun i => decide (i < j)) && (all.zipIdx.all fun (p, i) => !(decide (i < j)) || ((wrs X p).all fun t => !(wrs X o).contains t) || (b.getD j 0).testBit i) &&
  (looks all o).all fun t => all.zipIdx.all fun (p, i) => !(wrs X p).contains t || i == j || (b.getD j 0).testBit i || (b.getD i 0).testBit j) && all.all fun o => (match o.op with | .select .. => false | _ => true)

inductive Reach (all : List Oper) : Nat → Nat → Prop where
 | edge {j i : Nat} {o : Oper} (h : all[j]? = some o) (he : i ∈ edgesOf o) : Reach all j i
 | step {j i k : Nat} {o : Oper} (h : all[j]? = some o) (he : i ∈ edgesOf o) (hr : Reach all i k) : Reach all j k

theorem mask_fold {all : List Oper} {j : Nat} {o : Oper} {acc : List Nat} (ho : all[j]? = some o) (hacc : ∀ i k, (acc.getD i 0).testBit k = true → Reach all i k) :
  ∀ (l : List Nat) (s : Nat), (∀ i ∈ l, i ∈ edgesOf o) → (∀ k, s.testBit k = true → Reach all j k) → ∀ k, (l.foldl (fun s i => s ||| 2 ^ i ||| acc.getD i 0) s).testBit k = true → Reach all j k
 | [], s, _, hs, k, h => hs k h
 | i :: l, s, hl, hs, k, h => by
  refine mask_fold ho hacc l _ (fun x hx => hl x (List.mem_cons_of_mem _ hx)) (fun q hq => ?_) k h
  simp only [Nat.testBit_or, Bool.or_eq_true] at hq
  rcases hq with (hq | hq) | hq
  ·exact hs q hq
  ·rw [Nat.testBit_two_pow] at hq
   have : i = q := by simpa using hq
   subst this
   exact .edge ho (hl i (List.mem_cons_self ..))
  ·exact .step ho (hl i (List.mem_cons_self ..)) (hacc _ _ hq)

theorem befGo_reach {all : List Oper} : ∀ (os : List Oper) (acc : List Nat), (∀ i k, (acc.getD i 0).testBit k = true → Reach all i k) → (∀ j, all[acc.length + j]? = os[j]?) → ∀ i k, ((befGo acc os).getD i 0).testBit k = true → Reach all i k
 | [], acc, h, _, i, k, hk => h i k hk
 | o :: os, acc, h, hl, i, k, hk => by
  have ho : all[acc.length]? = some o := by have := hl 0; simpa using this
  refine befGo_reach os (acc ++ [maskOf acc o]) (fun i k hk => ?_) (fun j => ?_) i k hk
  ·rw [List.getD_eq_getElem?_getD] at hk
   by_cases h1 : i < acc.length
   ·rw [List.getElem?_append_left h1] at hk
    exact h i k (by rw [List.getD_eq_getElem?_getD]; exact hk)
   ·by_cases h2 : i = acc.length
    ·subst h2
     rw [List.getElem?_append_right (Nat.le_refl _)] at hk
     simp at hk
     exact mask_fold ho h _ 0 (fun _ h => h) (by simp) k hk
    ·rw [List.getElem?_eq_none (by simp; omega)] at hk
     simp at hk
  ·have := hl (j + 1)
   simp only [List.length_append, List.length_cons, List.length_nil, List.getElem?_cons_succ] at this ⊢
   rw [← this]
   congr 1
   omega

section
variable {C : Ctx} {X : Fx} {o : Oper} {g : Gh} {w : World} {a : Act} {e : Env} {S : Store}

/-- An operation that makes a variable of a value. -/
def isBox : Op → Bool
 | .box _ _ => true
 | _ => false
/-- A slot that does not take over what its operation looks at, but for what is boxed. -/
def mvOk (X : Fx) (o : Oper) (d : Nat) : Prop := X.mv d = false ∨ isBox o.op = true ∨ (mvr X o).isSome = true

instance {X : Fx} {o : Oper} {d : Nat} : Decidable (mvOk X o d) := inferInstanceAs (Decidable (_ ∨ _))

/-- What an operation answers that takes over a flag. -/
def qmv (C : Ctx) (X : Fx) (o : Oper) (e : Env) (S : Store) (v : PV) : Prop :=
 match o.op, o.dst with
 | .move (.tmp s), some d => s < X.n ∧ s ≠ d ∧ v = e s
 | .assign (.tmp s), some d => s < X.n ∧ s ≠ d ∧ v = e s
 | .call c, some d => (match c.args.toList with
  | [.tmp s, x] => X.vars d = false ∧ s < X.n ∧ ∃ sz rows more, pappend C c.argTypes.toList (e s) (vw S (ev x e)) = some (sz, rows, more) ∧ v = .sl .tail sz (rows ++ more)
  | _ => False)
 | _, _ => False
/-- What an operation of such a region answers. -/
def qop0 (C : Ctx) (X : Fx) (o : Oper) (e : Env) (S : Store) (v : PV) : Prop :=
 match o.op with
 | .call c => (match c.callee with
  | .value (.func f) => PRet C.P f (cargs C false c.args.toList c.argTypes.toList e) S v
  | .builtin .append => False
  | .builtin _ => pop C o e = some v
  | _ => False)
 | .load t x => (match ev x e, C.T t with
  | .ref id off, some ti => (match S id with | some cells => pload ti (cells.map PV.bare) off = some v | none => False)
  | _, _ => pop C o e = some v)
 | .alloc t => ∃ ti d, C.T t = some ti ∧ o.dst = some d ∧ X.vars d = false ∧ v = .fresh ti.size
 | .store t (.tmp s) x => ∃ ti n cs, C.T t = some ti ∧ e s = .fresh n ∧ pcells (opd C t x e) = some cs ∧ cs.length = n ∧ ti.size = n ∧ o.dst = none ∧ v = (if X.mv s then .np cs else .ip cs 0)
 | .store .. => False
 | .box _ x => ∃ d cs, o.dst = some d ∧ X.vars d = false ∧ pcells (ev x e) = some cs ∧ v = (if X.mv d then .np cs else .ip cs 0)
 | .move (.const (.slice none 0 0)) => (match o.dst with | some d => X.vars d = false | none => False) ∧ pop C o e = some v
 | .assign (.const (.slice none 0 0)) => (match o.dst with | some d => X.vars d = false | none => False) ∧ pop C o e = some v
 | _ => pop C o e = some v

def qop (C : Ctx) (X : Fx) (o : Oper) (e : Env) (S : Store) (v : PV) : Prop :=
 match mvr X o with
 | some _ => qmv C X o e S v
 | none => qop0 C X o e S v

theorem mvr_some {s : Nat} (h : mvr X o = some s) : (o.op = .move (.tmp s) ∧ ∃ d, o.dst = some d ∧ X.mv d = true) ∨ (o.op = .assign (.tmp s) ∧ ∃ d, o.dst = some d ∧ X.mv d = true) ∨
  ∃ xs ts l d, o.op = .call ⟨.builtin .append, xs, ts⟩ ∧ xs.toList = .tmp s :: l ∧ o.dst = some d := by
 unfold mvr at h
 split at h
 ·rename_i s' d ho hd
  split at h
  ·rename_i hm; injection h with h; subst h; exact .inl ⟨ho, d, hd, hm⟩
  ·cases h
 ·rename_i s' d ho hd
  split at h
  ·rename_i hm; injection h with h; subst h; exact .inr (.inl ⟨ho, d, hd, hm⟩)
  ·cases h
 ·rename_i xs ts d ho hd
  split at h
  ·rename_i s' l hx; injection h with h; subst h; exact .inr (.inr ⟨xs, ts, l, d, ho, hx, hd⟩)
  ·cases h
 ·cases h
theorem mvr_looks {s : Nat} {all : List Oper} (h : mvr X o = some s) : s ∈ looks all o := by
 unfold looks
 refine List.mem_append_left _ ?_
 unfold opTmps
 simp only [List.mem_filterMap]
 refine ⟨.tmp s, ?_, rfl⟩
 rcases mvr_some h with ⟨ho, _⟩ | ⟨ho, _⟩ | ⟨xs, ts, l, d, ho, hx, _⟩
 ·rw [ho]; simp [Op.operands]
 ·rw [ho]; simp [Op.operands]
 ·rw [ho]
  simp only [Op.operands, Call.operands]
  have : Operand.tmp s ∈ xs.toList := by rw [hx]; exact List.mem_cons_self
  simp
  simpa using this

theorem qmv_vop {K : Env → Store → Prop} {d s : Nat} {v : PV} (hm : mvr X o = some s) (hod : ods o = some d) (hdn : d < X.n) (hq : qmv C X o e S v) (hK : K (effG (some s) d e v) S) : vop C X o K e S := by
 unfold qmv at hq
 rcases mvr_some hm with ⟨ho, d', hd, hmv⟩ | ⟨ho, d', hd, hmv⟩ | ⟨xs, ts, l, d', ho, hx, hd⟩
 ·rw [ods_some hd] at hod
  injection hod with hod
  subst hod
  rw [ho, hd] at hq
  obtain ⟨h1, h2, rfl⟩ := hq
  unfold vop
  rw [ho]
  dsimp only
  unfold vMove
  rw [hd]
  dsimp only
  rw [if_pos hmv, if_pos ⟨hdn, h1, h2⟩]
  exact hK
 ·rw [ods_some hd] at hod
  injection hod with hod
  subst hod
  rw [ho, hd] at hq
  obtain ⟨h1, h2, rfl⟩ := hq
  unfold vop
  rw [ho]
  dsimp only
  unfold vMove
  rw [hd]
  dsimp only
  rw [if_pos hmv, if_pos ⟨hdn, h1, h2⟩]
  exact hK
 ·rw [ods_some hd] at hod
  injection hod with hod
  subst hod
  rw [ho, hd] at hq
  dsimp only at hq
  rw [hx] at hq
  split at hq
  ·rename_i s' x hxs
   injection hxs with h1 h2
   injection h1 with h1
   subst h1
   obtain ⟨hv, hs, sz, rows, more, hp, rfl⟩ := hq
   unfold vop
   rw [ho]
   dsimp only
   unfold vCall
   dsimp only
   unfold vAppend
   rw [hd, hx, h2]
   dsimp only
   rw [if_neg (by rw [hv]; simp), hp]
   dsimp only
   rw [if_pos ⟨hdn, hs⟩]
   exact hK
  ·exact hq.elim

theorem qop_vop {K : Env → Store → Prop} {d : Nat} {v : PV} (hod : ods o = some d) (hdn : d < X.n) (hmv0 : o.dst = none ∨ mvOk X o d) (hq : qop C X o e S v) (hK : K (effG (mvr X o) d e v) S) : vop C X o K e S := by
 unfold qop at hq
 cases hmr : mvr X o with
 | some s =>
  rw [hmr] at hq hK
  exact qmv_vop hmr hod hdn hq hK
 | none =>
 rw [hmr] at hq hK
 dsimp only at hq
 change K (e.put d v) S at hK
 by_cases hst : ∃ t s x, o.op = .store t (.tmp s) x ∧ o.dst = none
 ·obtain ⟨t, s, x, hop, hdn0⟩ := hst
  have hds : ods o = some s := by unfold ods; rw [hdn0, hop]
  rw [hds] at hod
  injection hod with hod
  subst hod
  unfold qop0 at hq
  rw [hop] at hq
  obtain ⟨ti, n, cs, h1, h2, h3, h4, h5, h6, rfl⟩ := hq
  unfold vop
  rw [hop]
  dsimp only
  simp only [vStore, h6, h1, h3, h2]
  rw [if_pos ⟨h4, h5, hdn⟩]
  exact hK
 have hd : o.dst = some d := by
  unfold ods at hod
  split at hod
  ·rename_i d' hd'; rw [hd']; exact hod
  ·rename_i hn
   split at hod
   ·rename_i t s x hop; exact absurd ⟨t, s, x, hop, hn⟩ hst
   ·cases hod
 by_cases hbx : ∃ t x, o.op = .box t x
 ·obtain ⟨t, x, hop⟩ := hbx
  unfold qop0 at hq
  rw [hop] at hq
  obtain ⟨d', cs, h1, h2, h3, rfl⟩ := hq
  rw [hd] at h1
  injection h1 with h1
  subst h1
  unfold vop
  rw [hop]
  dsimp only
  unfold vBox
  rw [hd]
  dsimp only
  rw [if_neg (by rw [h2]; simp)]
  cases hm : X.mv d with
  | true =>
   rw [if_pos rfl, h3]
   dsimp only
   rw [if_pos hdn]
   rw [hm] at hK
   exact hK
  | false =>
   rw [if_neg (by simp)]
   rw [hm] at hK
   have : pop C o e = some (.ip cs 0) := by
    unfold pop
    rw [hop]
    dsimp only
    rw [h3]
    rfl
   rw [this]
   simp only [vPut]
   rw [if_pos hdn]
   exact hK
 have hmv : X.mv d = false := by
  rcases hmv0 with h | h
  ·rw [hd] at h; cases h
  ·rcases h with h | h | h
   ·exact h
   ·unfold isBox at h
    split at h
    ·rename_i t x hop; exact absurd ⟨t, x, hop⟩ hbx
    ·cases h
   ·rw [hmr] at h; cases h
 have put : ∀ {q : Option PV}, q = some v → vPut X (some d) q K e S := by
  intro q hq
  subst hq
  simp only [vPut]
  rw [if_pos hdn]
  exact hK
 have pp : pop C o e = some v → vPut X o.dst (pop C o e) K e S := fun h => by rw [hd]; exact put h
 unfold qop0 at hq
 unfold vop
 split at hq
 ·rename_i c hop
  rw [hop]
  dsimp only
  unfold vCall
  split at hq
  ·rename_i f hc
   rw [hc]
   dsimp only
   have hm : mvd X o.dst = false := by rw [hd]; exact hmv
   unfold vCallF
   rw [if_pos (by rw [hm, hd]; simp [dstOk, hdn])]
   rw [hm]
   refine hq _ ?_
   simp only [retK, afterCall, Bool.false_eq_true, if_false, hd, Env.putO]
   exact hK
  ·exact hq.elim
  ·rename_i b hne hc
   rw [hc]
   have hpo : pop C o e = pcall C b c.argTypes (c.args.toList.map (ev · e)) := by
    obtain ⟨cal, xs, ts⟩ := c
    dsimp only at hc
    subst hc
    unfold pop
    rw [hop]
   by_cases hlen : b = .len
   ·subst hlen
    dsimp only
    split
    ·rename_i x hx
     unfold vLenO
     split
     ·rename_i id hm
      rw [hpo, hx] at hq
      simp only [List.map_cons, List.map_nil, hm, pcall] at hq
      cases hq
     ·exact pp hq
    ·exact pp hq
   ·by_cases hdel : b = .delete
    ·subst hdel
     rw [hpo] at hq
     unfold pcall at hq
     cases hq
    ·cases b <;> first | exact absurd rfl hne | exact absurd rfl hlen | exact absurd rfl hdel | exact pp hq
  ·exact hq.elim
 ·rename_i t x hop
  rw [hop]
  dsimp only
  unfold vLoad
  split at hq
  ·rename_i id off ti h1 h2
   rw [h1, h2]
   dsimp only
   split at hq
   ·rename_i cells hS
    rw [hS]
    dsimp only
    rw [hd]
    simp only [vTake, hmv, Bool.false_eq_true, if_false]
    exact put hq
   ·exact hq.elim
  ·rename_i hne
   split
   ·rename_i id off ti h1 h2
    exact (hne id off ti h1 h2).elim
   ·exact pp hq
 ·rename_i t hop
  obtain ⟨ti, d', h1, h2, h3, rfl⟩ := hq
  rw [hd] at h2
  injection h2 with h2
  subst h2
  rw [hop]
  dsimp only
  simp only [vAlloc, hd, h1, h3, Bool.false_eq_true, if_false]
  rw [if_pos hdn]
  exact hK
 ·rename_i hop
  obtain ⟨ti, n, cs, h1, h2, h3, h4, h5, h6, _⟩ := hq
  rw [hd] at h6
  cases h6
 ·exact hq.elim
 ·rename_i t x hop
  exact absurd ⟨t, x, hop⟩ hbx
 ·rename_i hop
  rw [hop]
  dsimp only
  rw [hd] at hq
  have h1 : X.vars d = false := hq.1
  simp only [vMove, hd, h1, Bool.false_eq_true, if_false]
  exact put hq.2
 ·rename_i hop
  rw [hop]
  dsimp only
  rw [hd] at hq
  have h1 : X.vars d = false := hq.1
  simp only [vMove, hd, h1, Bool.false_eq_true, if_false]
  exact put hq.2
 ·rename_i h1 h2 h3 h4a h4 h5 h6 h7
  have mv : ∀ x, (o.op = .move x ∨ o.op = .assign x) → vMove C X o x K e S := by
   intro x hx
   unfold vMove
   rw [hd]
   split
   ·rename_i d' s hd'
    injection hd' with hd'
    subst hd'
    rw [if_neg (by rw [hmv]; simp), if_pos hdn]
    have : pop C o e = some (e s).bare := by
     unfold pop
     rcases hx with hx | hx <;> (rw [hx]; rfl)
    rw [this] at hq
    injection hq with hq
    rw [hq]
    exact hK
   ·rename_i d' hd'
    injection hd' with hd'
    subst hd'
    rcases hx with hx | hx
    ·exact absurd hx h6
    ·exact absurd hx h7
   ·exact put hq
  split
  ·rename_i h; exact absurd h (h3 _)
  ·rename_i h; exact absurd h (h5 _ _)
  ·rename_i h; exact absurd h (h4 _ _ _)
  ·rename_i h; exact absurd h (h2 _ _)
  ·rename_i x h; exact mv x (.inl h)
  ·rename_i x h; exact mv x (.inr h)
  ·rename_i h; exact absurd h (h1 _)
  ·unfold vBin
   rw [hq, hd]
   dsimp only
   exact put rfl
  ·simp only [vBuild, hd, hmv, Bool.false_eq_true, if_false]
   exact put hq
  ·rename_i h; unfold pop at hq; rw [h] at hq; cases hq
  ·rename_i h; unfold pop at hq; rw [h] at hq; cases hq
  ·rename_i h; unfold pop at hq; rw [h] at hq; cases hq
  ·rename_i h; unfold pop at hq; rw [h] at hq; cases hq
  ·rename_i h; unfold pop at hq; rw [h] at hq; cases hq
  ·rename_i h; unfold pop at hq; rw [h] at hq; cases hq
  ·rename_i h; unfold pop at hq; rw [h] at hq; cases hq
  ·rename_i h; unfold pop at hq; rw [h] at hq; cases hq
  ·exact pp hq

/-! ### what an operation answers hangs on what it looks at alone -/
theorem ev_congr {e e' : Env} {x : Operand} (h : ∀ t, x = .tmp t → e' t = e t) : ev x e' = ev x e := by
 cases x with
 | tmp t => exact h t rfl
 | const v => rfl
 | global q => rfl
 | func f => rfl
theorem opd_congr {e e' : Env} {x : Operand} {t : TypeId} (h : ∀ t, x = .tmp t → e' t = e t) : opd C t x e' = opd C t x e := by
 unfold opd
 split
 ·rfl
 ·rename_i s; rw [h s rfl]
 ·exact ev_congr h

theorem mem_opTmps {xs : List Operand} {t : Nat} : t ∈ opTmps xs ↔ .tmp t ∈ xs := by
 unfold opTmps
 simp only [List.mem_filterMap]
 constructor
 ·rintro ⟨x, hx, h⟩
  cases x <;> simp at h
  subst h
  exact hx
 ·intro h
  exact ⟨_, h, rfl⟩

theorem pop_congr {e e' : Env} (h : ∀ t, t ∈ opTmps o.op.operands.toList → e' t = e t) : pop C o e' = pop C o e := by
 have key : ∀ x, x ∈ o.op.operands.toList → ev x e' = ev x e := fun x hx => ev_congr fun t ht => h t (mem_opTmps.2 (ht ▸ hx))
 have keyo : ∀ t x, x ∈ o.op.operands.toList → opd C t x e' = opd C t x e := fun t x hx => opd_congr fun t ht => h t (mem_opTmps.2 (ht ▸ hx))
 have parts : ∀ ps : Array (Nat × Operand), (∀ p ∈ ps.toList, p.2 ∈ o.op.operands.toList) → (ps.toList.map fun p => (p.1, ev p.2 e')) = ps.toList.map fun p => (p.1, ev p.2 e) := by
  intro ps hp
  refine List.map_congr_left fun p hm => ?_
  rw [key _ (hp p hm)]
 unfold pop
 cases hop : o.op <;> rw [hop] at key keyo parts <;> simp only [Op.operands] at key keyo parts <;> try dsimp only
 case move x => rw [keyo _ x (by simp)]
 case assign x => rw [keyo _ x (by simp)]
 case pick c x y => rw [key c (by simp), key x (by simp), key y (by simp)]
 case nilCheck x => rw [key x (by simp)]
 case load t x => rw [key x (by simp)]
 case fieldAddr t x f => rw [key x (by simp)]
 case indexAddr t x i => rw [key x (by simp), key i (by simp)]
 case index t x i => rw [key x (by simp), key i (by simp)]
 case field t x f => rw [key x (by simp)]
 case binOp op t x y ty => rw [key x (by simp), key y (by simp)]
 case unOp op t x => rw [key x (by simp)]
 case convert s d x => rw [key x (by simp)]
 case extract x i => rw [key x (by simp)]
 case build t ps => rw [parts ps (fun p hp => by simp; exact ⟨p.1, by simpa using hp⟩)]
 case buildSlice t n ps => rw [parts ps (fun p hp => by simp; exact ⟨p.1, by simpa using hp⟩)]
 case box t x => rw [key x (by simp)]
 case slice t x lo hi mx =>
  have m : ∀ q : Option Operand, (∀ y, q = some y → y ∈ (#[x] ++ lo.toArray ++ hi.toArray ++ mx.toArray).toList) → q.map (ev · e') = q.map (ev · e) := by
   intro q hq
   cases q with
   | none => rfl
   | some y => simp only [Option.map_some]; rw [key y (hq y rfl)]
  rw [key x (by simp), m lo (fun y hy => by subst hy; simp), m hi (fun y hy => by subst hy; simp), m mx (fun y hy => by subst hy; simp)]
 case makeFunc f xs cs =>
  have m : ∀ q : Array Operand, (∀ y ∈ q.toList, y ∈ (xs ++ cs).toList) → (q.toList.map fun x => (ev x e').bare) = q.toList.map fun x => (ev x e).bare := by
   intro q hq
   exact List.map_congr_left fun y hy => by rw [key y (hq y hy)]
  rw [m xs (fun y hy => by simp at hy ⊢; exact .inl hy), m cs (fun y hy => by simp at hy ⊢; exact .inr hy)]
 case call c =>
  obtain ⟨cal, xs, ts⟩ := c
  cases cal <;> try dsimp only
  rename_i b
  have m : (xs.toList.map (ev · e')) = xs.toList.map (ev · e) := List.map_congr_left fun y hy => key y (by simp [Call.operands]; simpa using hy)
  rw [m]

theorem cargs_congr {e e' : Env} : ∀ (xs : List Operand) (ts : List TypeId), (∀ t, .tmp t ∈ xs → e' t = e t) → cargs C false xs ts e' = cargs C false xs ts e
 | [], _, _ => rfl
 | x :: xs, t :: ts, h => by
  simp only [cargs, carg]
  rw [opd_congr (fun s hs => h s (hs ▸ List.mem_cons_self ..)), cargs_congr xs ts (fun s hs => h s (List.mem_cons_of_mem _ hs))]
 | x :: xs, [], h => by
  simp only [cargs, carg]
  rw [opd_congr (fun s hs => h s (hs ▸ List.mem_cons_self ..)), cargs_congr xs [] (fun s hs => h s (List.mem_cons_of_mem _ hs))]

theorem qop0_congr {e e' : Env} {v : PV} (h : ∀ t, t ∈ opTmps o.op.operands.toList → e' t = e t) (hq : qop0 C X o e S v) : qop0 C X o e' S v := by
 have hp := pop_congr (C := C) h
 unfold qop0 at *
 rw [hp]
 split at hq
 ·rename_i c hop
  split at hq
  ·rename_i f hc
   rw [cargs_congr _ _ (fun t ht => h t (mem_opTmps.2 (by rw [hop]; simp [Op.operands, Call.operands]; exact .inr (by simpa using ht))))]
   exact hq
  ·exact hq
  ·exact hq
  ·exact hq
 ·rename_i t x hop
  have hx : ev x e' = ev x e := ev_congr fun s hs => h s (mem_opTmps.2 (by rw [hop, hs]; simp [Op.operands]))
  rw [hx]
  exact hq
 ·exact hq
 ·rename_i t s x hop
  have h1 : e' s = e s := h s (mem_opTmps.2 (by rw [hop]; simp [Op.operands]))
  have h2 : opd C t x e' = opd C t x e := opd_congr fun u hu => h u (mem_opTmps.2 (by rw [hop, hu]; simp [Op.operands]))
  rw [h1, h2]
  exact hq
 ·exact hq
 ·rename_i t x hop
  have hx : ev x e' = ev x e := ev_congr fun s hs => h s (mem_opTmps.2 (by rw [hop, hs]; simp [Op.operands]))
  rw [hx]
  exact hq
 ·exact hq
 ·exact hq
 ·exact hq

theorem qop_congr {e e' : Env} {v : PV} (h : ∀ t, t ∈ opTmps o.op.operands.toList → e' t = e t) (hq : qop C X o e S v) : qop C X o e' S v := by
 unfold qop at *
 split at hq
 ·rename_i s hm
  unfold qmv at *
  rcases mvr_some hm with ⟨ho, d', hd, hmv⟩ | ⟨ho, d', hd, hmv⟩ | ⟨xs, ts, l, d', ho, hx, hd⟩
  ·rw [ho, hd] at hq ⊢
   dsimp only at hq ⊢
   rw [h s (mem_opTmps.2 (by rw [ho]; simp [Op.operands]))]
   exact hq
  ·rw [ho, hd] at hq ⊢
   dsimp only at hq ⊢
   rw [h s (mem_opTmps.2 (by rw [ho]; simp [Op.operands]))]
   exact hq
  ·rw [ho, hd] at hq ⊢
   dsimp only at hq ⊢
   split at hq
   ·rename_i s' x hxs
    have hs : e' s' = e s' := h s' (mem_opTmps.2 (by rw [ho]; simp [Op.operands, Call.operands]; have : Operand.tmp s' ∈ xs.toList := by rw [hxs]; exact List.mem_cons_self
                                                     simpa using this))
    have hv : ev x e' = ev x e := ev_congr fun u hu => h u (mem_opTmps.2 (by rw [ho, ← hu]; simp [Op.operands, Call.operands]; have : x ∈ xs.toList := by rw [hxs]; simp
                                                                             simpa using this))
    rw [hs, hv]
    exact hq
   ·exact hq.elim
 ·exact qop0_congr h hq

theorem vguard_congr {all : List Oper} {e e' : Env} (h : ∀ j want d, o.guard = some (j, want) → (all[j]?).bind (·.dst) = some d → e' d = e d) : vguard all o e' = vguard all o e := by
 unfold vguard
 split
 ·rfl
 ·rename_i j want hg
  split
  ·rename_i d hd
   rw [h j want d hg hd]
  ·rfl
end
end Go.VL

/- VL, part 17: a region that draws its order, in the order of the text. -/
namespace Go.VL
open Go

/-- The operations one behind the other, in the order of the text. -/
def vopsQ (C : Ctx) (X : Fx) (all : List Oper) (K : Env → Store → Prop) : List Oper → Env → Store → Prop
 | [], e, S => K e S
 | o :: os, e, S => (match ods o, vguard all o e with
  | some d, some true => if d < X.n ∧ (o.dst = none ∨ mvOk X o d) then ∃ v, qop C X o e S v ∧ vopsQ C X all K os (effG (mvr X o) d e v) S else False
  | some d, some false => if d < X.n ∧ o.dst = some d then vopsQ C X all K os (e.put d (.tup [])) S else False
  | _, _ => False)

section
variable {C : Ctx} {X : Fx} {e0 : Env} {S : Store} {K : Env → Store → Prop}

/-- The last of a set of operations that turns a slot. -/
def lastW (X : Fx) (all : List Oper) (L : Nat → Bool) (t : Nat) : Option Nat := (List.range all.length).reverse.find? fun i => L i && ((all[i]?).elim false fun p => (wrs X p).contains t)
/-- The slots, when those of a set of operations have answered. -/
def envL (X : Fx) (all : List Oper) (e0 : Env) (vals : Nat → Nat → PV) (L : Nat → Bool) : Env := fun t =>
 match lastW X all L t with
 | some i => vals i t
 | none => e0 t

theorem lastW_some {all : List Oper} {L : Nat → Bool} {t i : Nat} (h : lastW X all L t = some i) : L i = true ∧ ∃ p, all[i]? = some p ∧ t ∈ wrs X p := by
 have := List.find?_some h
 simp only [Bool.and_eq_true] at this
 obtain ⟨h1, h2⟩ := this
 cases hp : all[i]? with
 | none => rw [hp] at h2; cases h2
 | some p => rw [hp] at h2; exact ⟨h1, p, rfl, by simpa using h2⟩
/-- Two sets in which the same operations turn a slot. -/
theorem lastW_congr {all : List Oper} {L M : Nat → Bool} {t : Nat} (h : ∀ (i : Nat) (p : Oper), all[i]? = some p → t ∈ wrs X p → L i = M i) : lastW X all L t = lastW X all M t := by
 unfold lastW
 congr 1
 funext i
 cases hp : all[i]? with
 | none => simp
 | some p =>
  by_cases ho : t ∈ wrs X p
  ·rw [h i p hp ho]
  ·have : ((some p).elim false fun p => (wrs X p).contains t) = false := by simpa using ho
   rw [this, Bool.and_false, Bool.and_false]
theorem find_range {f : Nat → Bool} : ∀ (n i : Nat), i < n → f i = true → (∀ j, i < j → j < n → f j = false) → (List.range n).reverse.find? f = some i
 | 0, i, h, _, _ => by omega
 | n + 1, i, h, hf, hn => by
  rw [List.range_succ, List.reverse_append]
  simp only [List.reverse_cons, List.reverse_nil, List.nil_append, List.singleton_append, List.find?_cons]
  by_cases e : i = n
  ·subst e; rw [hf]
  ·rw [hn n (by omega) (by omega)]
   exact find_range n i (by omega) hf fun j h1 h2 => hn j h1 (by omega)
theorem lastW_of {all : List Oper} {L : Nat → Bool} {t i : Nat} {p : Oper} (hp : all[i]? = some p) (ho : t ∈ wrs X p) (hL : L i = true) (hn : ∀ (j : Nat) (q : Oper), i < j → all[j]? = some q → t ∈ wrs X q → L j = false) : lastW X all L t = some i := by
 refine find_range _ i (List.getElem?_eq_some_iff.1 hp).1 (by simp [hL, hp, ho]) fun j h1 h2 => ?_
 have hq : all[j]? = some all[j] := List.getElem?_eq_getElem h2
 by_cases hoj : t ∈ wrs X all[j]
 ·simp [hn j _ h1 hq hoj]
 ·simp [hq, hoj]

/-- The slots, when one more operation has answered. -/
def upd (X : Fx) (o : Oper) (f : Nat → PV) (e : Env) : Env := fun t => if t ∈ wrs X o then f t else e t
theorem envL_put {all : List Oper} {vals : Nat → Nat → PV} {L : Nat → Bool} {i : Nat} {p : Oper} (hp : all[i]? = some p) (hn : ∀ (j : Nat) (q : Oper), i < j → all[j]? = some q → (∃ t, t ∈ wrs X p ∧ t ∈ wrs X q) → L j = false) :
  upd X p (vals i) (envL X all e0 vals L) = envL X all e0 vals (fun j => j == i || L j) := by
 funext t
 simp only [upd, envL]
 by_cases ht : t ∈ wrs X p
 ·have hlast : lastW X all (fun j => j == i || L j) t = some i := lastW_of hp ht (by simp) (fun j q hj hq ho => by
   have : (j == i) = false := by simpa using Nat.ne_of_gt hj
   rw [hn j q hj hq ⟨t, ht, ho⟩, this]
   rfl)
  rw [if_pos ht, hlast]
 ·rw [if_neg ht]
  rw [lastW_congr (L := L) (M := fun j => j == i || L j)]
  intro j q hq ho
  have : j ≠ i := by
   rintro rfl
   rw [hp] at hq
   injection hq with hq
   subst hq
   exact ht ho
  simp [this]
theorem mem_wrs {o : Oper} {t : Nat} : t ∈ wrs X o ↔ ods o = some t ∨ mvr X o = some t := by
 unfold wrs
 simp only [List.mem_append, Option.mem_toList]
theorem effG_out {o : Oper} {d t : Nat} {e : Env} {v : PV} (hd : ods o = some d) (ht : t ∉ wrs X o) : effG (mvr X o) d e v t = e t := by
 rw [mem_wrs] at ht
 have h1 : t ≠ d := fun h => ht (.inl (by rw [hd, h]))
 unfold effG
 cases hs : mvr X o with
 | some s =>
  have h2 : t ≠ s := fun h => ht (.inr (by rw [hs, h]))
  simp only [Env.put]
  rw [if_neg h1, if_neg h2]
 | none =>
  simp only [Env.put]
  rw [if_neg h1]
theorem put_out {o : Oper} {d t : Nat} {e : Env} {v : PV} (hd : ods o = some d) (ht : t ∉ wrs X o) : e.put d v t = e t := by
 rw [mem_wrs] at ht
 have h1 : t ≠ d := fun h => ht (.inl (by rw [hd, h]))
 simp only [Env.put]
 rw [if_neg h1]
theorem effG_in {o : Oper} {d t : Nat} {e e' : Env} {v : PV} (hd : ods o = some d) (ht : t ∈ wrs X o) (he : ∀ s, mvr X o = some s → e s = e' s) : effG (mvr X o) d e v t = effG (mvr X o) d e' v t := by
 rw [mem_wrs] at ht
 unfold effG
 cases hm : mvr X o with
 | none =>
  rw [hm, hd] at ht
  rcases ht with ht | ht
  ·injection ht with ht; subst ht; simp [Env.put]
  ·cases ht
 | some s =>
  have := he s hm
  rw [hm, hd] at ht
  simp only [Env.put]
  by_cases h1 : t = d
  ·rw [if_pos h1, if_pos h1]
  ·rw [if_neg h1, if_neg h1]
   rcases ht with ht | ht
   ·injection ht with ht; exact absurd ht.symm h1
   ·injection ht with ht
    subst ht
    rw [if_pos rfl, if_pos rfl, this]
theorem put_in {o : Oper} {d t : Nat} {e e' : Env} {v : PV} (hd : ods o = some d) (ht : t ∈ wrs X o) (he : ∀ s, mvr X o = some s → e s = e' s) : e.put d v t = e'.put d v t := by
 rw [mem_wrs] at ht
 simp only [Env.put]
 by_cases h1 : t = d
 ·rw [if_pos h1, if_pos h1]
 ·rw [if_neg h1, if_neg h1]
  rcases ht with ht | ht
  ·rw [hd] at ht; injection ht with ht; exact absurd ht.symm h1
  ·exact he t ht

/-- Regions that draw: their own law is said below (part 16). -/
def vdraw (C : Ctx) (X : Fx) (ops : Array Oper) (K : Env → Store → Prop) (e : Env) (S : Store) : Prop :=
 ∀ (g : Gh) (w : World) (a : Act) (Qr : Exit → Act → World → Prop), St X.n g w e S a.tmps → Goes X g w a K (fun a' w' => Qr .normal a' w') →
  wpAny C.P .any ops Qr ops.size (Array.replicate ops.size false) a w


structure RunOk (C : Ctx) (X : Fx) (all : List Oper) (e0 : Env) (S : Store) (vals : Nat → Nat → PV) (i : Nat) (o : Oper) : Prop where
 ok : ∃ d v, ods o = some d ∧ d < X.n ∧ ((vguard all o (envL X all e0 vals (fun j => decide (j < i))) = some true ∧ (o.dst = none ∨ mvOk X o d) ∧ qop C X o (envL X all e0 vals (fun j => decide (j < i))) S v ∧
   ∀ t ∈ wrs X o, vals i t = effG (mvr X o) d (envL X all e0 vals (fun j => decide (j < i))) v t) ∨
  (vguard all o (envL X all e0 vals (fun j => decide (j < i))) = some false ∧ o.dst = some d ∧ v = .tup [] ∧ ∀ t ∈ wrs X o, vals i t = (envL X all e0 vals (fun j => decide (j < i))).put d v t))

theorem envL_congr {all : List Oper} {vals vals' : Nat → Nat → PV} {L : Nat → Bool} (h : ∀ i, L i = true → vals i = vals' i) : envL X all e0 vals L = envL X all e0 vals' L := by
 funext t
 unfold envL
 split
 ·rename_i i hi
  rw [h i (lastW_some hi).1]
 ·rfl

theorem run_of {all : List Oper} : ∀ (os : List Oper) (k : Nat) (vals : Nat → Nat → PV), (∀ j, all[k + j]? = os[j]?) → vopsQ C X all K os (envL X all e0 vals (fun j => decide (j < k))) S →
  ∃ vals', (∀ i, i < k → vals' i = vals i) ∧ (∀ (i : Nat) (o : Oper), k ≤ i → all[i]? = some o → RunOk C X all e0 S vals' i o) ∧ K (envL X all e0 vals' (fun j => decide (j < all.length))) S
 | [], k, vals, hl, hv => by
  refine ⟨vals, fun _ _ => rfl, fun i o hi ho => ?_, ?_⟩
  ·have := hl (i - k)
   rw [show k + (i - k) = i from by omega, ho] at this
   simp at this
  ·have hlen : all.length ≤ k := by
    have := hl 0
    simpa using this
   have : envL X all e0 vals (fun j => decide (j < all.length)) = envL X all e0 vals (fun j => decide (j < k)) := by
    funext t
    unfold envL
    rw [lastW_congr (M := fun j => decide (j < k))]
    intro i p hp _
    have := (List.getElem?_eq_some_iff.1 hp).1
    rw [decide_eq_true this, decide_eq_true (by omega)]
   rw [this]
   exact hv
 | o :: os, k, vals, hl, hv => by
  have ho : all[k]? = some o := by have := hl 0; simpa using this
  have hl' : ∀ j, all[k + 1 + j]? = os[j]? := fun j => by
   have := hl (j + 1)
   rw [show k + (j + 1) = k + 1 + j from by omega] at this
   simpa using this
  have step : ∀ {E : Env}, (∀ t, t ∉ wrs X o → E t = envL X all e0 vals (fun j => decide (j < k)) t) → vopsQ C X all K os E S →
    ∃ vals', (∀ i, i < k → vals' i = vals i) ∧ (∀ t, vals' k t = E t) ∧ (∀ (i : Nat) (o : Oper), k + 1 ≤ i → all[i]? = some o → RunOk C X all e0 S vals' i o) ∧ K (envL X all e0 vals' (fun j => decide (j < all.length))) S := by
   intro E hE hv
   have e1 : E = envL X all e0 (fun i => if i = k then E else vals i) (fun j => decide (j < k + 1)) := by
    have h1 : envL X all e0 vals (fun j => decide (j < k)) = envL X all e0 (fun i => if i = k then E else vals i) (fun j => decide (j < k)) := envL_congr fun i hi => by
     have : i ≠ k := by simp at hi; omega
     simp [this]
    have h2 := envL_put (X := X) (e0 := e0) (vals := fun i => if i = k then E else vals i) (L := fun j => decide (j < k)) ho (fun j q hj _ _ => by simp; omega)
    have h3 : E = upd X o ((fun i => if i = k then E else vals i) k) (envL X all e0 (fun i => if i = k then E else vals i) (fun j => decide (j < k))) := by
     rw [← h1]
     funext t
     unfold upd
     by_cases ht : t ∈ wrs X o
     ·rw [if_pos ht]; simp
     ·rw [if_neg ht]; exact hE t ht
    rw [h2] at h3
    refine h3.trans ?_
    congr 1
    funext j
    by_cases h3 : j = k
    ·subst h3; simp
    ·have : (j == k) = false := by simpa using h3
     rw [this, Bool.false_or]
     rw [decide_eq_decide]
     omega
   rw [e1] at hv
   obtain ⟨vals', q1, q2, q3⟩ := run_of os (k + 1) _ hl' hv
   refine ⟨vals', fun i hi => ?_, ?_, q2, q3⟩
   ·rw [q1 i (by omega)]
    have : i ≠ k := by omega
    simp [this]
   ·intro t
    rw [q1 k (by omega)]
    simp
  unfold vopsQ at hv
  split at hv
  ·rename_i d hd hg
   split at hv
   ·rename_i hc
    obtain ⟨v, hq, hv⟩ := hv
    obtain ⟨vals', q1, q2, q3, q4⟩ := step (fun t ht => effG_out hd ht) hv
    have he : envL X all e0 vals' (fun j => decide (j < k)) = envL X all e0 vals (fun j => decide (j < k)) := envL_congr fun i hi => q1 i (by simpa using hi)
    refine ⟨vals', q1, fun i o' hi ho' => ?_, q4⟩
    by_cases h1 : i = k
    ·subst h1
     rw [ho] at ho'
     injection ho' with ho'
     subst ho'
     exact ⟨d, v, hd, hc.1, .inl (by rw [he]; exact ⟨hg, hc.2, hq, fun t _ => q2 t⟩)⟩
    ·exact q3 i o' (by omega) ho'
   ·exact hv.elim
  ·rename_i d hd hg
   split at hv
   ·rename_i hc
    obtain ⟨vals', q1, q2, q3, q4⟩ := step (fun t ht => put_out hd ht) hv
    have he : envL X all e0 vals' (fun j => decide (j < k)) = envL X all e0 vals (fun j => decide (j < k)) := envL_congr fun i hi => q1 i (by simpa using hi)
    refine ⟨vals', q1, fun i o' hi ho' => ?_, q4⟩
    by_cases h1 : i = k
    ·subst h1
     rw [ho] at ho'
     injection ho' with ho'
     subst ho'
     exact ⟨d, .tup [], hd, hc.1, .inr (by rw [he]; exact ⟨hg, hc.2, rfl, fun t _ => q2 t⟩)⟩
    ·exact q3 i o' (by omega) ho'
   ·exact hv.elim
  ·exact hv.elim

/-! ### any order -/
structure Listed (all : List Oper) (listed : Array Bool) : Prop where
 size : listed.size = all.length
 closed : ∀ (j : Nat) (o : Oper), all[j]? = some o → listed.getD j false = true → ∀ i ∈ edgesOf o, listed.getD i false = true

theorem Listed.reach {all : List Oper} {listed : Array Bool} (h : Listed all listed) {j i : Nat} (hr : Reach all j i) : listed.getD j false = true → listed.getD i false = true := by
 induction hr with
 | edge ho he => exact fun hj => h.closed _ _ ho hj _ he
 | step ho he _ ih => exact fun hj => ih (h.closed _ _ ho hj _ he)

theorem drawOk_parts {all : List Oper} (h : drawOk X all = true) : (∀ (i j : Nat) (p o : Oper), all[i]? = some p → all[j]? = some o → i < j → (∃ t, t ∈ wrs X p ∧ t ∈ wrs X o) → Reach all j i) ∧ (∀ (j : Nat) (o : Oper), all[j]? = some o → (∀ i ∈ edgesOf o, i < j) ∧
  ∀ t ∈ looks all o, ∀ (i : Nat) (p : Oper), all[i]? = some p → t ∈ wrs X p → i = j ∨ Reach all j i ∨ Reach all i j) ∧ ∀ o ∈ all, ∀ cs b, o.op ≠ .select cs b := by
 simp only [drawOk, Bool.and_eq_true] at h
 obtain ⟨⟨h1, h2⟩, h3⟩ := h
 have hre : ∀ i k, ((befGo [] all).getD i 0).testBit k = true → Reach all i k := befGo_reach all [] (by simp) (by simp)
 refine ⟨fun i j p o hp ho hij hd => ?_, fun j o ho => ?_, fun o ho cs b hs => ?_⟩
 ·rw [List.all_eq_true] at h2
  have hm : (o, j) ∈ all.zipIdx := by
   rw [List.mem_iff_getElem?]
   exact ⟨j, by simp [ho]⟩
  have hm2 : (p, i) ∈ all.zipIdx := by
   rw [List.mem_iff_getElem?]
   exact ⟨i, by simp [hp]⟩
  have := h2 _ hm
  simp only [Bool.and_eq_true, List.all_eq_true, Bool.or_eq_true, Bool.not_eq_true', decide_eq_false_iff_not, List.contains_eq_mem] at this
  rcases this.1.2 (p, i) hm2 with (h4 | h4) | h4
  ·exact absurd hij h4
  ·obtain ⟨t, ht1, ht2⟩ := hd
   exact absurd ht2 (h4 t ht1)
  ·exact hre _ _ h4
 ·rw [List.all_eq_true] at h2
  have hm : (o, j) ∈ all.zipIdx := by
   rw [List.mem_iff_getElem?]
   exact ⟨j, by simp [ho]⟩
  have := h2 _ hm
  simp only [Bool.and_eq_true, List.all_eq_true, decide_eq_true_eq, Bool.or_eq_true, Bool.not_eq_true', decide_eq_false_iff_not, List.contains_eq_mem, beq_iff_eq] at this
  refine ⟨this.1.1, fun t ht i p hp hpd => ?_⟩
  have hm2 : (p, i) ∈ all.zipIdx := by
   rw [List.mem_iff_getElem?]
   exact ⟨i, by simp [hp]⟩
  rcases this.2 t ht (p, i) hm2 with ((h4 | h4) | h4) | h4
  ·exact absurd hpd h4
  ·exact .inl h4
  ·exact .inr (.inl (hre _ _ h4))
  ·exact .inr (.inr (hre _ _ h4))
 ·rw [List.all_eq_true] at h3
  have := h3 o ho
  rw [hs] at this
  simp at this

theorem agree {all : List Oper} (h : drawOk X all = true) {listed : Array Bool} (hL : Listed all listed) {vals : Nat → Nat → PV} {j : Nat} {o : Oper} (ho : all[j]? = some o) (hj : listed.getD j false = false) (hready : ∀ i ∈ edgesOf o, listed.getD i false = true)
  (t : Nat) (ht : t ∈ looks all o) : envL X all e0 vals (fun i => listed.getD i false) t = envL X all e0 vals (fun i => decide (i < j)) t := by
 obtain ⟨h1, h2, _⟩ := drawOk_parts h
 have hlt : ∀ {j i}, Reach all j i → i < j := by
  intro j i hr
  induction hr with
  | edge ho he => exact (h2 _ _ ho).1 _ he
  | step ho he _ ih => exact Nat.lt_trans ih ((h2 _ _ ho).1 _ he)
 unfold envL
 rw [lastW_congr (M := fun i => decide (i < j))]
 intro i p hp hpd
 rcases (h2 j o ho).2 t ht i p hp hpd with hr | hr | hr
 ·subst hr
  rw [hj]
  simp
 ·have hin : listed.getD i false = true := by
   cases hr with
   | edge ho' he => rw [ho] at ho'; injection ho' with ho'; subst ho'; exact hready _ he
   | step ho' he hr' => rw [ho] at ho'; injection ho' with ho'; subst ho'; exact hL.reach hr' (hready _ he)
  rw [hin, decide_eq_true (hlt hr)]
 ·have hout : listed.getD i false = false := by
   cases hx : listed.getD i false with
   | false => rfl
   | true => rw [hL.reach hr hx] at hj; cases hj
  rw [hout]
  have := hlt hr
  simp
  omega

theorem mem_ready {ops : Array Oper} {listed : Array Bool} {i : Nat} (h : i ∈ Region.ready .any ops listed) : ∃ o, ops[i]? = some o ∧ listed.getD i true = false ∧ ∀ k ∈ edgesOf o, listed.getD k false = true := by
 unfold Region.ready at h
 simp only [List.mem_filter, List.mem_range, Bool.and_eq_true, Bool.not_eq_true'] at h
 obtain ⟨hlt, h1, h2⟩ := h
 have ho : ops[i]? = some ops[i] := Array.getElem?_eq_getElem hlt
 rw [ho] at h2
 refine ⟨_, ho, h1, fun k hk => ?_⟩
 simp only [edgesOf, List.mem_map, List.mem_filter] at hk
 obtain ⟨ed, ⟨hm, hb⟩, rfl⟩ := hk
 simp only [Option.map_some, Option.getD_some, Array.all_eq_true_iff_forall_mem] at h2
 have := h2 ed (Array.mem_toList_iff.1 hm)
 simpa [hb] using this

theorem ready_mem {ops : Array Oper} {listed : Array Bool} {i : Nat} {o : Oper} (ho : ops[i]? = some o) (h1 : listed.getD i true = false) (h2 : ∀ k ∈ edgesOf o, listed.getD k false = true) : i ∈ Region.ready .any ops listed := by
 unfold Region.ready
 simp only [List.mem_filter, List.mem_range, Bool.and_eq_true, Bool.not_eq_true']
 refine ⟨(Array.getElem?_eq_some_iff.1 ho).1, h1, ?_⟩
 rw [ho]
 simp only [Option.map_some, Option.getD_some, Array.all_eq_true_iff_forall_mem]
 intro ed hm
 cases hb : Region.binds .any ed with
 | false => simp
 | true =>
  have := h2 ed.on (by simp only [edgesOf, List.mem_map, List.mem_filter]; exact ⟨ed, ⟨Array.mem_toList_iff.2 hm, hb⟩, rfl⟩)
  simpa using this

theorem getD_of {listed : Array Bool} {i : Nat} (h : i < listed.size) (b c : Bool) : listed.getD i b = listed.getD i c := by simp [Array.getD, h]

def left (listed : Array Bool) : Nat := (listed.toList.filter (!·)).length

theorem left_set {listed : Array Bool} {i : Nat} (hi : i < listed.size) (h : listed.getD i false = false) : left listed = left (listed.setIfInBounds i true) + 1 := by
 unfold left
 have hl : listed.toList[i]? = some false := by
  rw [Array.getElem?_toList, Array.getElem?_eq_getElem hi]
  simp [Array.getD, hi] at h
  rw [h]
 have hs : (listed.setIfInBounds i true).toList = listed.toList.set i true := by simp
 rw [hs]
 generalize listed.toList = l at hl
 clear hs h hi
 induction l generalizing i with
 | nil => simp at hl
 | cons b l ih =>
  rcases i with _ | i
  ·simp at hl
   subst hl
   simp
  ·simp at hl
   have := ih hl
   cases b <;> simp [this]

theorem any_sound {ops : Array Oper} {vals : Nat → Nat → PV} {Qr : Exit → Act → World → Prop} (hok : drawOk X ops.toList = true) (hrun : ∀ (i : Nat) (o : Oper), ops.toList[i]? = some o → RunOk C X ops.toList e0 S vals i o)
  (hK : K (envL X ops.toList e0 vals (fun j => decide (j < ops.toList.length))) S) : ∀ (fuel : Nat) (listed : Array Bool) (g : Gh) (w : World) (a : Act), Listed ops.toList listed → left listed = fuel → St X.n g w (envL X ops.toList e0 vals (fun i => listed.getD i false)) S a.tmps →
  Goes X g w a K (fun a' w' => Qr .normal a' w') → wpAny C.P .any ops Qr fuel listed a w := by
 intro fuel
 obtain ⟨hds, hpart, hsel⟩ := drawOk_parts hok
 -- when nothing is ready, all was done
 have fin : ∀ (listed : Array Bool) (g : Gh) (w : World) (a : Act), Listed ops.toList listed → Region.ready .any ops listed = [] → St X.n g w (envL X ops.toList e0 vals (fun i => listed.getD i false)) S a.tmps → Goes X g w a K (fun a' w' => Qr .normal a' w') → Qr .normal a w := by
  intro listed g w a hL hr hst hR
  have allDone : ∀ i, i < ops.toList.length → listed.getD i false = true := by
   intro i
   induction i using Nat.strongRecOn with
   | _ i ih =>
    intro hi
    cases hx : listed.getD i false with
    | true => rfl
    | false =>
     have ho : ops.toList[i]? = some ops.toList[i] := List.getElem?_eq_getElem hi
     have : i ∈ Region.ready .any ops listed := ready_mem (by rw [← Array.getElem?_toList]; exact ho) (by rw [getD_of (by rw [hL.size]; exact hi) true false]; exact hx) (fun k hk => by
      have := (hpart i _ ho).1 k hk
      exact ih k this (by omega))
     rw [hr] at this
     cases this
  have he : envL X ops.toList e0 vals (fun i => listed.getD i false) = envL X ops.toList e0 vals (fun j => decide (j < ops.toList.length)) := by
   funext t
   unfold envL
   rw [lastW_congr (M := fun j => decide (j < ops.toList.length))]
   intro i p hp _
   have hlt := (List.getElem?_eq_some_iff.1 hp).1
   rw [allDone i hlt, decide_eq_true hlt]
  exact hR _ _ g w a hK (by rw [← he]; exact hst) rfl (Fr.refl g w)
 induction fuel with
 | zero =>
  intro listed g w a hL hleft hst hR
  have hr : Region.ready .any ops listed = [] := by
   cases hr : Region.ready .any ops listed with
   | nil => rfl
   | cons i l =>
    obtain ⟨o, ho, h1, _⟩ := mem_ready (i := i) (by rw [hr]; exact List.mem_cons_self ..)
    have hi : i < listed.size := by rw [hL.size, Array.length_toList]; exact (Array.getElem?_eq_some_iff.1 ho).1
    have := left_set hi (by rw [getD_of hi false true]; exact h1)
    omega
  exact ⟨hr, fin listed g w a hL hr hst hR⟩
 | succ fuel ih =>
  intro listed g w a hL hleft hst hR
  refine ⟨fun hr => fin listed g w a hL hr hst hR, fun i hi => ?_⟩
  obtain ⟨o, ho, h1, h2⟩ := mem_ready hi
  have hos : ops.toList[i]? = some o := by rw [Array.getElem?_toList]; exact ho
  have hsz : i < listed.size := by rw [hL.size, Array.length_toList]; exact (Array.getElem?_eq_some_iff.1 ho).1
  have h1' : listed.getD i false = false := by rw [getD_of hsz false true]; exact h1
  obtain ⟨d, v, hd, hdn, hcase⟩ := (hrun i o hos).ok
  have hag := fun t ht => agree (e0 := e0) (vals := vals) hok hL hos h1' h2 t ht
  have hL' : Listed ops.toList (listed.setIfInBounds i true) := by
   refine ⟨by simp [hL.size], fun j o' ho' hj k hk => ?_⟩
   have set_get : ∀ k, (listed.setIfInBounds i true).getD k false = (k == i || listed.getD k false) := by
    intro k
    by_cases hki : k = i
    ·subst hki; simp [Array.getD, hsz]
    ·have : (k == i) = false := by simpa using hki
     rw [this, Bool.false_or]
     simp only [Array.getD_eq_getD_getElem?, Array.getElem?_setIfInBounds_ne (Ne.symm hki)]
   rw [set_get] at hj ⊢
   simp only [Bool.or_eq_true, beq_iff_eq] at hj ⊢
   right
   rcases hj with hj | hj
   ·subst hj
    rw [hos] at ho'
    injection ho' with ho'
    subst ho'
    exact h2 k hk
   ·exact hL.closed j o' ho' hj k hk
  have hleft' : left (listed.setIfInBounds i true) = fuel := by
   have := left_set hsz h1'
   omega
  have hset : envL X ops.toList e0 vals (fun j => (listed.setIfInBounds i true).getD j false) = upd X o (vals i) (envL X ops.toList e0 vals (fun j => listed.getD j false)) := by
   rw [envL_put hos (fun j q hij hq hqd => by
    cases hx : listed.getD j false with
    | false => rfl
    | true => rw [hL.reach (hds i j o q hos hq hij hqd) hx] at h1'; cases h1')]
   congr 1
   funext k
   by_cases hki : k = i
   ·subst hki; simp [Array.getD, hsz]
   ·have : (k == i) = false := by simpa using hki
    rw [this, Bool.false_or]
    simp only [Array.getD_eq_getD_getElem?, Array.getElem?_setIfInBounds_ne (Ne.symm hki)]
  have hgd : vguard ops.toList o (envL X ops.toList e0 vals (fun j => listed.getD j false)) = vguard ops.toList o (envL X ops.toList e0 vals (fun j => decide (j < i))) := vguard_congr fun j want d' hg hd' => hag d' (by
   unfold looks
   rw [hg]
   refine List.mem_append_right _ ?_
   dsimp only
   rw [hd']
   simp)
  have hmr : ∀ s, mvr X o = some s → envL X ops.toList e0 vals (fun j => decide (j < i)) s = envL X ops.toList e0 vals (fun j => listed.getD j false) s := fun s hs => (hag s (mvr_looks hs)).symm
  have cont : ∀ (E : Env) g' w' a', E = upd X o (vals i) (envL X ops.toList e0 vals (fun j => listed.getD j false)) → St X.n g' w' E S a'.tmps → a'.defers = a.defers → Fr g g' w w' → wpAny C.P .any ops Qr fuel (listed.setIfInBounds i true) a' w' := by
   intro E g' w' a' hE hst' hd' fr
   refine ih (listed.setIfInBounds i true) g' w' a' hL' hleft' (by rw [hset, ← hE]; exact hst') ?_
   intro e2 S2 g2 w2 a2 hK2 hst2 hd2 fr2
   exact hR e2 S2 g2 w2 a2 hK2 hst2 (hd2.trans hd') (fr.trans fr2)
  unfold wpOp
  rw [ho]
  dsimp only
  rcases hcase with ⟨hg, hmv, hq, hvals⟩ | ⟨hg, hdd, hv, hvals⟩
  ·rw [← hgd] at hg
   rw [if_pos (vguard_sound hst hg)]
   have hq' : qop C X o (envL X ops.toList e0 vals (fun j => listed.getD j false)) S v := qop_congr (fun t ht => hag t (by unfold looks; exact List.mem_append_left _ ht)) hq
   have hv := qop_vop (K := fun e' S' => e' = effG (mvr X o) d (envL X ops.toList e0 vals (fun j => listed.getD j false)) v ∧ S' = S) hd hdn hmv hq' ⟨rfl, rfl⟩
   refine .inl (vop_sound hst hv ?_)
   rintro e' S' g' w' a' ⟨rfl, rfl⟩ hst' hd' fr
   refine cont _ g' w' a' ?_ hst' hd' fr
   funext t
   unfold upd
   by_cases ht : t ∈ wrs X o
   ·rw [if_pos ht, hvals t ht]
    exact (effG_in hd ht hmr).symm
   ·rw [if_neg ht]
    exact effG_out hd ht
  ·rw [← hgd] at hg
   rw [if_neg (by rw [vguard_sound hst hg]; simp)]
   refine cont ((envL X ops.toList e0 vals (fun j => listed.getD j false)).put d v) g w _ ?_ ?_ (put_defers _ _ _) (Fr.refl g w)
   ·funext t
    unfold upd
    by_cases ht : t ∈ wrs X o
    ·rw [if_pos ht, hvals t ht]
     exact (put_in hd ht hmr).symm
    ·rw [if_neg ht]
     exact put_out hd ht
   ·rw [hv, hdd]
    exact hst.put hdn ⟨.tup (by simp) (by simp), by simp [Tail]⟩

theorem vdraw_of {ops : Array Oper} (hok : drawOk X ops.toList = true) (h : vopsQ C X ops.toList K ops.toList e0 S) : vdraw C X ops K e0 S := by
 intro g w a Qr hst hR
 obtain ⟨hds, _, _⟩ := drawOk_parts hok
 have e1 : envL X ops.toList e0 (fun _ _ => .undef) (fun j => decide (j < 0)) = e0 := by
  funext t
  unfold envL
  split
  ·rename_i i hi
   have := (lastW_some hi).1
   simp at this
  ·rfl
 obtain ⟨vals, _, q2, q3⟩ := run_of (C := C) (X := X) (K := K) (S := S) (e0 := e0) (all := ops.toList) ops.toList 0 (fun _ _ => .undef) (by simp) (by rw [e1]; exact h)
 have e2 : envL X ops.toList e0 vals (fun i => (Array.replicate ops.size false).getD i false) = e0 := by
  funext t
  unfold envL
  split
  ·rename_i i hi
   have := (lastW_some hi).1
   simp [Array.getD] at this
  ·rfl
 refine any_sound hok (fun i o ho => q2 i o (Nat.zero_le _) ho) q3 ops.size _ g w a ⟨by simp, fun j o ho hj => ?_⟩ ?_ (by rw [e2]; exact hst) hR
 ·simp [Array.getD] at hj
 ·unfold left
  simp

/-! ### all orders, one by one -/
inductive OT where
 | done
 | one (i : Nat) (t : OT)
 | alt (a b : OT)
 deriving DecidableEq

def otAll (f : Nat → OT) : List Nat → OT
 | [] => .done
 | [i] => .one i (f i)
 | i :: l => .alt (.one i (f i)) (otAll f l)

def ordTree (ops : Array Oper) : Nat → Array Bool → OT
 | 0, _ => .done
 | n + 1, listed => otAll (fun i => ordTree ops n (listed.setIfInBounds i true)) (Region.ready .any ops listed)

def vopsO (C : Ctx) (X : Fx) (all : List Oper) (K : Env → Store → Prop) (e : Env) (S : Store) : Option Oper → Prop
 | some o => vops C X all K [o] e S
 | none => False

def vtree (C : Ctx) (X : Fx) (all : List Oper) (K : Env → Store → Prop) : OT → Env → Store → Prop
 | .done, e, S => K e S
 | .one i t, e, S => vopsO C X all (vtree C X all K t) e S all[i]?
 | .alt a b, e, S => vtree C X all K a e S ∧ vtree C X all K b e S

theorem otAll_mem {all : List Oper} {f : Nat → OT} : ∀ (l : List Nat), vtree C X all K (otAll f l) e0 S → ∀ i ∈ l, vopsO C X all (vtree C X all K (f i)) e0 S all[i]?
 | [], _, i, hi => by cases hi
 | [j], h, i, hi => by
  have : i = j := by simpa using hi
  subst this
  exact h
 | j :: k :: l, h, i, hi => by
  rcases List.mem_cons.1 hi with rfl | hi
  ·exact h.1
  ·exact otAll_mem (k :: l) h.2 i hi

theorem vtree_sound {ops : Array Oper} {Qr : Exit → Act → World → Prop} : ∀ (fuel : Nat) (listed : Array Bool) (g : Gh) (w : World) (a : Act) (e : Env) (S : Store), left listed ≤ fuel → listed.size = ops.size → vtree C X ops.toList K (ordTree ops fuel listed) e S → St X.n g w e S a.tmps →
  Goes X g w a K (fun a' w' => Qr .normal a' w') → wpAny C.P .any ops Qr fuel listed a w := by
 intro fuel
 induction fuel with
 | zero =>
  intro listed g w a e S hleft hsz hv hst hR
  have hr : Region.ready .any ops listed = [] := by
   cases hr : Region.ready .any ops listed with
   | nil => rfl
   | cons i l =>
    obtain ⟨o, ho, h1, _⟩ := mem_ready (i := i) (by rw [hr]; exact List.mem_cons_self ..)
    have hi : i < listed.size := by rw [hsz]; exact (Array.getElem?_eq_some_iff.1 ho).1
    have := left_set hi (by rw [getD_of hi false true]; exact h1)
    omega
  exact ⟨hr, hR _ _ g w a hv hst rfl (Fr.refl g w)⟩
 | succ fuel ih =>
  intro listed g w a e S hleft hsz hv hst hR
  unfold ordTree at hv
  refine ⟨fun hr => ?_, fun i hi => ?_⟩
  ·rw [hr] at hv
   exact hR _ _ g w a hv hst rfl (Fr.refl g w)
  ·obtain ⟨o, ho, h1, _⟩ := mem_ready hi
   have hsz' : i < listed.size := by rw [hsz]; exact (Array.getElem?_eq_some_iff.1 ho).1
   have h1' : listed.getD i false = false := by rw [getD_of hsz' false true]; exact h1
   have hl := left_set hsz' h1'
   have hv := otAll_mem _ hv i hi
   have hos : ops.toList[i]? = some o := by rw [Array.getElem?_toList]; exact ho
   rw [hos] at hv
   simp only [vopsO] at hv
   have cont : ∀ g' w' a' e' S', vtree C X ops.toList K (ordTree ops fuel (listed.setIfInBounds i true)) e' S' → St X.n g' w' e' S' a'.tmps → a'.defers = a.defers → Fr g g' w w' → wpAny C.P .any ops Qr fuel (listed.setIfInBounds i true) a' w' := by
    intro g' w' a' e' S' hv' hst' hd' fr
    refine ih (listed.setIfInBounds i true) g' w' a' e' S' (by omega) (by simpa using hsz) hv' hst' ?_
    intro e2 S2 g2 w2 a2 hK2 hst2 hd2 fr2
    exact hR e2 S2 g2 w2 a2 hK2 hst2 (hd2.trans hd') (fr.trans fr2)
   unfold wpOp
   rw [ho]
   dsimp only
   unfold vops at hv
   split at hv
   ·rename_i hg
    rw [if_pos (vguard_sound hst hg)]
    refine .inl (vop_sound hst hv ?_)
    intro e' S' g' w' a' hK hst' hd' fr
    exact cont g' w' a' e' S' hK hst' hd' fr
   ·rename_i hg
    rw [if_neg (by rw [vguard_sound hst hg]; simp)]
    split at hv
    ·rename_i hd
     exact cont g w _ _ S hv (hst.skip hd) (put_defers _ _ _) (Fr.refl g w)
    ·exact hv.elim
   ·exact hv.elim

theorem vdraw_tree {ops : Array Oper} {t : OT} (h : ordTree ops ops.size (Array.replicate ops.size false) = t) (hv : vtree C X ops.toList K t e0 S) : vdraw C X ops K e0 S := by
 subst h
 intro g w a Qr hst hR
 refine vtree_sound ops.size _ g w a e0 S ?_ (by simp) hv hst hR
 unfold left
 simp
/-! ### what is drawn, and behind it operations that wait for all of it -/
def Qthen (Qr : Exit → Act → World → Prop) (N : Act → World → Prop) : Exit → Act → World → Prop
 | .normal, a, w => N a w
 | ex, a, w => Qr ex a w
theorem upon_then {P : Program} {o : Oper} {a : Act} {next : Act → World → Prop} {Qr : Exit → Act → World → Prop} {N : Act → World → Prop} (r : Result Next) (h : o.upon P a next (Qthen Qr N) r) : o.upon P a next Qr r := by
 cases r with
 | ok n w' => cases n <;> exact h
 | halt hh w' => cases hh <;> exact h
def snocOk (A : List Oper) (last : Oper) : Bool :=
 (List.range A.length).all (fun i => match A[i]? with
  | some o => (edgesOf o).all (fun k => decide (k < i)) && (match o.guard with | some (j, _) => decide (j < A.length) | none => true)
  | none => true) && last.guard.isNone && (List.range A.length).all (fun j => (edgesOf last).contains j || (edgesOf last).any fun k => ((befGo [] A).getD k 0).testBit j) && (edgesOf last).all (fun k => decide (k < A.length))
theorem snoc_parts {A : List Oper} {last : Oper} (h : snocOk A last = true) : (∀ (i : Nat) (o : Oper), A[i]? = some o → (∀ k ∈ edgesOf o, k < i) ∧ ∀ j b, o.guard = some (j, b) → j < A.length) ∧ last.guard = none ∧ (∀ j, j < A.length → j ∈ edgesOf last ∨ ∃ k ∈ edgesOf last, Reach A k j) ∧ ∀ k ∈ edgesOf last, k < A.length := by
 unfold snocOk at h
 simp only [Bool.and_eq_true, List.all_eq_true, List.mem_range, decide_eq_true_eq] at h
 obtain ⟨⟨⟨h1, h2⟩, h3⟩, h4⟩ := h
 refine ⟨fun i o ho => ?_, Option.isNone_iff_eq_none.1 h2, fun j hj => ?_, h4⟩
 ·have hi := (List.getElem?_eq_some_iff.1 ho).1
  have := h1 i hi
  rw [ho] at this
  simp only [Bool.and_eq_true, List.all_eq_true, decide_eq_true_eq] at this
  refine ⟨this.1, fun j b hg => ?_⟩
  have h5 := this.2
  rw [hg] at h5
  simpa using h5
 ·have h6 := h3 j hj
  simp only [Bool.or_eq_true, List.any_eq_true] at h6
  rcases h6 with h6 | ⟨k, hk, h6⟩
  ·exact .inl (by simpa using h6)
  ·exact .inr ⟨k, hk, befGo_reach A [] (by simp) (by simp) k j h6⟩
theorem push_set {l : Array Bool} {i : Nat} (h : i < l.size) : (l.push false).setIfInBounds i true = (l.setIfInBounds i true).push false := by
 apply Array.ext_getElem?
 intro j
 simp only [Array.getElem?_setIfInBounds, Array.getElem?_push, Array.size_push, Array.size_setIfInBounds]
 by_cases hij : i = j
 ·subst hij
  have h1 : i ≠ l.size := by omega
  simp [h, h1]
  omega
 ·by_cases hj : j = l.size
  ·have h2 : ¬ i = l.size := by omega
   simp [hij, hj, h2]
  ·simp [hij, hj]
theorem vdraw_snoc {A : Array Oper} {last : Oper} (hok : snocOk A.toList last = true) (h : vdraw C X A (vop C X last K) e0 S) : vdraw C X (A.push last) K e0 S := by
 obtain ⟨p1, p2, p3, p4⟩ := snoc_parts hok
 simp only [Array.length_toList] at p1 p3 p4
 intro g w a Qr hst hR
 have hpl : (A.push last)[A.size]? = some last := by simp
 have hpi : ∀ i, i < A.size → (A.push last)[i]? = A[i]? := fun i hi => by simp [Array.getElem?_push, Nat.ne_of_lt hi]
 have hdone : Region.ready .any (A.push last) (Array.replicate (A.size + 1) true) = [] := by
  cases hr : Region.ready .any (A.push last) (Array.replicate (A.size + 1) true) with
  | nil => rfl
  | cons i l =>
   obtain ⟨o, ho, h1, _⟩ := mem_ready (i := i) (by rw [hr]; exact List.mem_cons_self ..)
   have : (Array.replicate (A.size + 1) true).getD i true = true := by
    simp only [Array.getD_eq_getD_getElem?, Array.getElem?_replicate]
    split <;> rfl
   rw [this] at h1
   cases h1
 have lift : ∀ (fuel : Nat) (listed : Array Bool) (a : Act) (w : World), listed.size = A.size → Listed A.toList listed →
   wpAny C.P .any A (Qthen Qr fun a w => ∀ m, wpOp C.P (A.push last) Qr A.size (wpAny C.P .any (A.push last) Qr m (Array.replicate (A.size + 1) true)) a w) fuel listed a w → wpAny C.P .any (A.push last) Qr (fuel + 1) (listed.push false) a w := by
  intro fuel
  have getd : ∀ (listed : Array Bool) (j : Nat) (b : Bool), listed.size = A.size → j < A.size → (listed.push false).getD j b = listed.getD j b := fun listed j b hs hj => by
   simp only [Array.getD_eq_getD_getElem?, Array.getElem?_push]
   rw [if_neg (by omega)]
  have F1 : ∀ (listed : Array Bool) (i : Nat), listed.size = A.size → i < A.size → i ∈ Region.ready .any (A.push last) (listed.push false) → i ∈ Region.ready .any A listed := by
   intro listed i hs hi hm
   obtain ⟨o, ho, h1, h2⟩ := mem_ready hm
   rw [hpi i hi] at ho
   refine ready_mem ho (by rw [← getd listed i true hs hi]; exact h1) fun k hk => ?_
   have hki := (p1 i o (by rw [Array.getElem?_toList]; exact ho)).1 k hk
   rw [← getd listed k false hs (by omega)]
   exact h2 k hk
  have F1' : ∀ (listed : Array Bool) (i : Nat), listed.size = A.size → i ∈ Region.ready .any A listed → i ∈ Region.ready .any (A.push last) (listed.push false) := by
   intro listed i hs hm
   obtain ⟨o, ho, h1, h2⟩ := mem_ready hm
   have hi : i < A.size := (Array.getElem?_eq_some_iff.1 ho).1
   refine ready_mem (by rw [hpi i hi]; exact ho) (by rw [getd listed i true hs hi]; exact h1) fun k hk => ?_
   have hki := (p1 i o (by rw [Array.getElem?_toList]; exact ho)).1 k hk
   rw [getd listed k false hs (by omega)]
   exact h2 k hk
  have F2 : ∀ (listed : Array Bool), listed.size = A.size → Region.ready .any A listed = [] → listed = Array.replicate A.size true := by
   intro listed hs hr
   have all : ∀ i, i < A.size → listed.getD i false = true := by
    intro i
    induction i using Nat.strongRecOn with
    | _ i ih =>
     intro hi
     cases hx : listed.getD i false with
     | true => rfl
     | false =>
      have ho : A[i]? = some A[i] := Array.getElem?_eq_getElem hi
      have : i ∈ Region.ready .any A listed := ready_mem ho (by rw [getD_of (by omega) true false]; exact hx) fun k hk => by
       have := (p1 i _ (by rw [Array.getElem?_toList]; exact ho)).1 k hk
       exact ih k this (by omega)
      rw [hr] at this
      cases this
   apply Array.ext
   ·simp [hs]
   ·intro i h1 h2
    have := all i (by omega)
    simp [Array.getD, h1] at this
    simp [this]
  have F3 : ∀ (listed : Array Bool), listed.size = A.size → Listed A.toList listed → A.size ∈ Region.ready .any (A.push last) (listed.push false) → Region.ready .any A listed = [] := by
   intro listed hs hcl hm
   obtain ⟨o, ho, _, h2⟩ := mem_ready hm
   rw [hpl] at ho
   injection ho with ho
   subst ho
   cases hr : Region.ready .any A listed with
   | nil => rfl
   | cons i l =>
    obtain ⟨o', ho', h1, _⟩ := mem_ready (i := i) (by rw [hr]; exact List.mem_cons_self ..)
    have hi : i < A.size := (Array.getElem?_eq_some_iff.1 ho').1
    have : listed.getD i false = true := by
     rcases p3 i hi with h5 | ⟨k, hk, h5⟩
     ·rw [← getd listed i false hs hi]
      exact h2 i h5
     ·refine hcl.reach h5 ?_
      rw [← getd listed k false hs (p4 k hk)]
      exact h2 k hk
    rw [getD_of (by omega) false true, h1] at this
    cases this
  have F4 : ∀ (listed : Array Bool), listed.size = A.size → Region.ready .any (A.push last) (listed.push false) ≠ [] := by
   intro listed hs hr
   cases hA : Region.ready .any A listed with
   | nil =>
    have hl := F2 listed hs hA
    have : A.size ∈ Region.ready .any (A.push last) (listed.push false) := ready_mem hpl (by
     rw [Array.getD_eq_getD_getElem?, Array.getElem?_push, if_pos hs.symm]
     rfl) fun k hk => by
     have hk2 := p4 k hk
     rw [getd listed k false hs hk2, hl]
     simp [Array.getD, hk2]
    rw [hr] at this
    cases this
   | cons i l =>
    have := F1' listed i hs (by rw [hA]; exact List.mem_cons_self ..)
    rw [hr] at this
    cases this
  have lt : ∀ (listed : Array Bool) (i : Nat), i ∈ Region.ready .any (A.push last) (listed.push false) → i < A.size ∨ i = A.size := by
   intro listed i hm
   obtain ⟨o, ho, _, _⟩ := mem_ready hm
   have := (Array.getElem?_eq_some_iff.1 ho).1
   simp at this
   omega
  have full : ∀ (listed : Array Bool), listed = Array.replicate A.size true → (listed.push false).setIfInBounds A.size true = Array.replicate (A.size + 1) true := by
   rintro listed rfl
   apply Array.ext_getElem?
   intro j
   simp only [Array.getElem?_setIfInBounds, Array.getElem?_push, Array.size_push, Array.size_replicate, Array.getElem?_replicate]
   by_cases hj : A.size = j
   ·subst hj; simp
   ·by_cases hj2 : j < A.size
    ·simp [hj, hj2, Ne.symm hj]; omega
    ·simp [hj, hj2, Ne.symm hj]; omega
  induction fuel with
  | zero =>
   rintro listed a w hs hcl ⟨hr, hN⟩
   refine ⟨fun h0 => absurd h0 (F4 listed hs), fun i hi => ?_⟩
   rcases lt listed i hi with h1 | rfl
   ·have := F1 listed i hs h1 hi
    rw [hr] at this
    cases this
   ·rw [full listed (F2 listed hs hr)]
    exact hN 0
  | succ fuel ih =>
   rintro listed a w hs hcl ⟨hr, hop⟩
   refine ⟨fun h0 => absurd h0 (F4 listed hs), fun i hi => ?_⟩
   rcases lt listed i hi with h1 | rfl
   ·have hcl' : Listed A.toList (listed.setIfInBounds i true) := by
     obtain ⟨o, hos, _, h2⟩ := mem_ready (F1 listed i hs h1 hi)
     have hsz : i < listed.size := by omega
     have set_get : ∀ k, (listed.setIfInBounds i true).getD k false = (k == i || listed.getD k false) := by
      intro k
      by_cases hki : k = i
      ·subst hki; simp [Array.getD, hsz]
      ·have : (k == i) = false := by simpa using hki
       rw [this, Bool.false_or]
       simp only [Array.getD_eq_getD_getElem?, Array.getElem?_setIfInBounds_ne (Ne.symm hki)]
     refine ⟨by simp [hcl.size], fun j o' ho' hj k hk => ?_⟩
     rw [set_get] at hj ⊢
     simp only [Bool.or_eq_true, beq_iff_eq] at hj ⊢
     right
     rcases hj with hj | hj
     ·subst hj
      rw [Array.getElem?_toList, hos] at ho'
      injection ho' with ho'
      subst ho'
      exact h2 k hk
     ·exact hcl.closed j o' ho' hj k hk
    have hop := hop i (F1 listed i hs h1 hi)
    unfold wpOp at hop ⊢
    rw [hpi i h1]
    have ho : A[i]? = some A[i] := Array.getElem?_eq_getElem h1
    rw [ho] at hop ⊢
    dsimp only at hop ⊢
    have hw : Region.wanted A[i] (yielded (A.push last) a.tmps) = Region.wanted A[i] (yielded A a.tmps) := by
     unfold Region.wanted
     cases hg : A[i].guard with
     | none => rfl
     | some jb =>
      obtain ⟨j, b⟩ := jb
      have hj := (p1 i _ (by rw [Array.getElem?_toList]; exact ho)).2 j b hg
      dsimp only
      unfold yielded
      rw [hpi j hj]
    rw [hw]
    have cont : ∀ a' w', wpAny C.P .any A (Qthen Qr fun a w => ∀ m, wpOp C.P (A.push last) Qr A.size (wpAny C.P .any (A.push last) Qr m (Array.replicate (A.size + 1) true)) a w) fuel (listed.setIfInBounds i true) a' w' → wpAny C.P .any (A.push last) Qr (fuel + 1) ((listed.push false).setIfInBounds i true) a' w' := fun a' w' hh => by
     rw [push_set (by omega)]
     exact ih (listed.setIfInBounds i true) a' w' (by simp [hs]) hcl' hh
    split at hop
    ·rename_i hg
     rw [if_pos hg]
     rcases hop with hop | ⟨h2, h3⟩
     ·exact .inl (Oper.wp_mono cont (upon_then _ hop))
     ·exact .inr ⟨h2, h3⟩
    ·rename_i hg
     rw [if_neg hg]
     exact cont _ _ hop
   ·have hr' := F3 listed hs hcl hi
    rw [full listed (F2 listed hs hr')]
    exact hr hr' (fuel + 1)
 have h1 := h g w a (Qthen Qr fun a w => ∀ m, wpOp C.P (A.push last) Qr A.size (wpAny C.P .any (A.push last) Qr m (Array.replicate (A.size + 1) true)) a w) hst (fun e' S' g' w' a' hv hst' hd fr => by
  show ∀ m, wpOp C.P (A.push last) Qr A.size (wpAny C.P .any (A.push last) Qr m (Array.replicate (A.size + 1) true)) a' w'
  intro m
  unfold wpOp
  rw [hpl]
  dsimp only
  rw [if_pos (by unfold Region.wanted; rw [p2])]
  refine .inl (vop_sound hst' hv fun e2 S2 g2 w2 a2 hK hst2 hd2 fr2 => ?_)
  have hend := hR e2 S2 g2 w2 a2 hK hst2 (hd2.trans hd) (fr.trans fr2)
  cases m with
  | zero => exact ⟨hdone, hend⟩
  | succ m => exact ⟨fun _ => hend, fun i hi => by rw [hdone] at hi; cases hi⟩)
 have h2 := lift A.size (Array.replicate A.size false) a w (by simp) ⟨by simp, fun j o ho hj => by simp [Array.getD] at hj⟩ h1
 have e1 : (Array.replicate A.size false).push false = Array.replicate (A.push last).size false := by
  simp [Array.replicate_succ]
 rw [e1] at h2
 simpa using h2

def tailK (C : Ctx) (X : Fx) (K : Env → Store → Prop) : List Oper → Env → Store → Prop
 | [], e, S => K e S
 | o :: os, e, S => vop C X o (tailK C X K os) e S
def tailOk : List Oper → List Oper → Bool
 | _, [] => true
 | A, s :: rest => snocOk A s && tailOk (A ++ [s]) rest
theorem vdraw_tail : ∀ (suf A : List Oper), tailOk A suf = true → vdraw C X A.toArray (tailK C X K suf) e0 S → vdraw C X (A ++ suf).toArray K e0 S
 | [], A, _, h => by
  rw [List.append_nil]
  exact h
 | s :: rest, A, hok, h => by
  simp only [tailOk, Bool.and_eq_true] at hok
  have := vdraw_tail rest (A ++ [s]) hok.2 (by
   have := vdraw_snoc (A := A.toArray) (last := s) (K := tailK C X K rest) hok.1 h
   simpa using this)
  rw [List.append_assoc] at this
  exact this
theorem vdraw_of_tail {ops : Array Oper} (m : Nat) (hok : drawOk X (ops.toList.take m) = true) (ht : tailOk (ops.toList.take m) (ops.toList.drop m) = true)
  (h : vopsQ C X (ops.toList.take m) (tailK C X K (ops.toList.drop m)) (ops.toList.take m) e0 S) : vdraw C X ops K e0 S := by
 have := vdraw_tail (K := K) (ops.toList.drop m) (ops.toList.take m) ht (vdraw_of (ops := (ops.toList.take m).toArray) (by simpa using hok) (by simpa using h))
 rw [List.take_append_drop] at this
 simpa using this
end
end Go.VL
