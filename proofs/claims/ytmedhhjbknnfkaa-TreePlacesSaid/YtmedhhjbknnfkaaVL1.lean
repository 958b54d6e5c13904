/- VL, part 1: what real memory means, in plain values: labels of cells, the relation, what stays. -/
import Derived.Deep.AppendSrc
import Derived.Orders
import Derived.RowKit3
import Derived.Below
import Derived.KernelRfl
namespace Go.VL
open Go

inductive Fl where
  | no | tail
  deriving DecidableEq, Inhabited

/-- A plain value: pointers to what never changes hold what stands there; so do slices. -/
inductive PV where
  | undef
  | bool (b : Bool)
  | int (k : IntKind) (n : Int)
  | str (s : ByteArray)
  | nilp
  | ip (cells : List PV) (off : Nat)
  | ref (id off : Nat)
  | fresh (n : Nat)
  | sl (f : Fl) (sz : Nat) (rows : List (List PV))
  | agg (cells : List PV)
  | tup (vs : List PV)
  | fn (f : Fn) (first captured : List PV)
  | nilf
  | ifc (t : TypeId) (v : PV)
  | nili
  | nils
  | arr (f : Fl) (id off len sz : Nat)
  | np (cells : List PV)
  deriving Inhabited

inductive Lab where
  | free | frozen | foreign
  | slot (t : Nat)
  | obj (id : Nat)
  | room (id k : Nat)
  deriving DecidableEq, Inhabited

def Lab.own : Lab → Prop
  | .slot _ => True
  | .obj _ => True
  | .room _ _ => True
  | _ => False

structure Gh where
  lab : Nat → Nat → Lab
  loc : Nat → Nat × Nat
  nxt : Nat

/-- A block of which no cell is marked as never to be written. -/
def NoMark (w : World) (b : Nat) : Prop := b < w.heap.size ∧ ∀ o, w.frozen? ⟨b, o, none⟩ = false

inductive Rel (g : Gh) (w : World) : PV → Value → Prop where
  | undef (v : Value) : Rel g w .undef v
  | bool (b : Bool) : Rel g w (.bool b) (.bool b)
  | int (k : IntKind) (n : Int) : Rel g w (.int k n) (.int k n)
  | str (s : ByteArray) : Rel g w (.str s) (.string s)
  | nilp : Rel g w .nilp (.pointer none)
  | ip {cells : List PV} {off b o : Nat} (f : Nat → Value) (h : ∀ (k : Nat) (v : PV), cells[k]? = some v → g.lab b (o + k) = .frozen ∧ w.cell? ⟨b, o + k, none⟩ = some (f k) ∧ (f k).oneCell' = true)
      (hr : ∀ (k : Nat) (v : PV), cells[k]? = some v → Rel g w v (f k)) : Rel g w (.ip cells off) (.pointer (some ⟨b, o + off, none⟩))
  | ref {id off : Nat} (h : id < g.nxt) : Rel g w (.ref id off) (.pointer (some ⟨(g.loc id).1, (g.loc id).2 + off, none⟩))
  | fresh {n : Nat} (a : Addr) : Rel g w (.fresh n) (.pointer (some a))
  | slnil (f : Fl) (sz : Nat) : Rel g w (.sl f sz []) (.slice none 0 0)
  | sl {f : Fl} {sz : Nat} {rows : List (List PV)} {b o cap : Nat} {sp : Option Nat} (fv : Nat → Nat → Value) (hc : rows.length ≤ cap) (hl : ∀ (j : Nat) (c : List PV), rows[j]? = some c → c.length = sz)
      (h : ∀ (j : Nat) (c : List PV) (k : Nat) (v : PV), rows[j]? = some c → c[k]? = some v → g.lab b (o + (j * sz + k)) = .frozen ∧ w.cell? ⟨b, o + (j * sz + k), none⟩ = some (fv j k) ∧ (fv j k).oneCell' = true)
      (hr : ∀ (j : Nat) (c : List PV) (k : Nat) (v : PV), rows[j]? = some c → c[k]? = some v → Rel g w v (fv j k))
      (hs : rows = [] ∨ sp = none := by first | exact .inr rfl | assumption) : Rel g w (.sl f sz rows) (.slice (some ⟨b, o, sp⟩) rows.length cap)
  | agg {cs : List PV} {vs : Array Value} (hl : cs.length = vs.size) (h1 : ∀ (k : Nat) rv, vs[k]? = some rv → rv.oneCell' = true) (hr : ∀ (k : Nat) v rv, cs[k]? = some v → vs[k]? = some rv → Rel g w v rv) : Rel g w (.agg cs) (.agg vs)
  | tup {cs : List PV} {vs : Array Value} (hl : cs.length = vs.size) (hr : ∀ (k : Nat) v rv, cs[k]? = some v → vs[k]? = some rv → Rel g w v rv) : Rel g w (.tup cs) (.tuple vs)
  | fn {f : Fn} {as bs : List PV} {vs us : Array Value} (hl : as.length = vs.size) (hm : bs.length = us.size) (hr : ∀ (k : Nat) v rv, as[k]? = some v → vs[k]? = some rv → Rel g w v rv)
      (hs : ∀ (k : Nat) v rv, bs[k]? = some v → us[k]? = some rv → Rel g w v rv) : Rel g w (.fn f as bs) (.func f vs us)
  | nilf : Rel g w .nilf .nilFunc
  | ifc (t : TypeId) {v : PV} {rv : Value} (hr : Rel g w v rv) : Rel g w (.ifc t v) (.iface t rv)
  | nili : Rel g w .nili .nilIface
  | nils : Rel g w .nils (.slice none 0 0)
  | arr0 (f : Fl) (id off sz : Nat) (a : Option Addr) (cap : Nat) (h : a = none → cap = 0) : Rel g w (.arr f id off 0 sz) (.slice a 0 cap)
  | arr (f : Fl) {id off len sz cap : Nat} (h : id < g.nxt) (hc : len ≤ cap) : Rel g w (.arr f id off len sz) (.slice (some ⟨(g.loc id).1, (g.loc id).2 + off, none⟩) len cap)
  | np {cells : List PV} {b o : Nat} (f : Nat → Value) (hb : NoMark w b) (h : ∀ (k : Nat) (v : PV), cells[k]? = some v → g.lab b (o + k) = .frozen ∧ w.cell? ⟨b, o + k, none⟩ = some (f k) ∧ (f k).oneCell' = true)
      (hr : ∀ (k : Nat) (v : PV), cells[k]? = some v → Rel g w v (f k)) : Rel g w (.np cells) (.pointer (some ⟨b, o, none⟩))

/-- What a step leaves as it was. -/
structure Fr (g g' : Gh) (w w' : World) : Prop where
  os : w'.os = w.os
  tape : w'.tape = w.tape
  output : w'.output = w.output
  size : w.heap.size ≤ w'.heap.size
  frozen : ∀ b o, g.lab b o = .frozen → g'.lab b o = .frozen
  foreign : ∀ b o, g.lab b o = .foreign → g'.lab b o = .foreign
  own : ∀ b o, b < w.heap.size → (g'.lab b o).own → (g.lab b o).own
  kept : ∀ b o, b < w.heap.size → ¬ (g.lab b o).own → w'.cell? ⟨b, o, none⟩ = w.cell? ⟨b, o, none⟩
  mark : ∀ b o, b < w.heap.size → w'.frozen? ⟨b, o, none⟩ = w.frozen? ⟨b, o, none⟩
  some : ∀ b o, (w.cell? ⟨b, o, none⟩).isSome = true → (w'.cell? ⟨b, o, none⟩).isSome = true
  block : ∀ b, b < w.heap.size → (∀ o, ¬ (g.lab b o).own) → w'.heap[b]? = w.heap[b]?
  loc : ∀ id, id < g.nxt → g'.loc id = g.loc id
  nxt : g.nxt ≤ g'.nxt

theorem Fr.refl (g : Gh) (w : World) : Fr g g w w :=
  ⟨rfl, rfl, rfl, Nat.le_refl _, fun _ _ h => h, fun _ _ h => h, fun _ _ _ h => h, fun _ _ _ _ => rfl, fun _ _ _ => rfl, fun _ _ h => h, fun _ _ _ => rfl, fun _ _ => rfl, Nat.le_refl _⟩

theorem Fr.trans {g g1 g2 : Gh} {w w1 w2 : World} (h : Fr g g1 w w1) (k : Fr g1 g2 w1 w2) : Fr g g2 w w2 where
  os := k.os.trans h.os
  tape := k.tape.trans h.tape
  output := k.output.trans h.output
  size := Nat.le_trans h.size k.size
  frozen b o hl := k.frozen b o (h.frozen b o hl)
  foreign b o hl := k.foreign b o (h.foreign b o hl)
  own b o hb hl := h.own b o hb (k.own b o (Nat.lt_of_lt_of_le hb h.size) hl)
  kept b o hb hl := (k.kept b o (Nat.lt_of_lt_of_le hb h.size) (fun h1 => hl (h.own b o hb h1))).trans (h.kept b o hb hl)
  mark b o hb := (k.mark b o (Nat.lt_of_lt_of_le hb h.size)).trans (h.mark b o hb)
  some b o hs := k.some b o (h.some b o hs)
  block b hb hl := (k.block b (Nat.lt_of_lt_of_le hb h.size) (fun o h1 => hl o (h.own b o hb h1))).trans (h.block b hb hl)
  loc id hi := (k.loc id (Nat.lt_of_lt_of_le hi h.nxt)).trans (h.loc id hi)
  nxt := Nat.le_trans h.nxt k.nxt

theorem Fr.cell {g g' : Gh} {w w' : World} (h : Fr g g' w w') {b o : Nat} {v : Value} (hl : g.lab b o = .frozen) (hc : w.cell? ⟨b, o, none⟩ = Option.some v) : w'.cell? ⟨b, o, none⟩ = Option.some v := by
  have hb := World.block_lt_of_cell? w _ hc
  rw [h.kept b o hb (by rw [hl]; exact fun h => h)]
  exact hc

theorem Fr.noMark {g g' : Gh} {w w' : World} (h : Fr g g' w w') {b : Nat} (hb : NoMark w b) : NoMark w' b :=
  ⟨Nat.lt_of_lt_of_le hb.1 h.size, fun o => (h.mark b o hb.1).trans (hb.2 o)⟩

theorem Rel.mono {g g' : Gh} {w w' : World} (fr : Fr g g' w w') {v : PV} {rv : Value} (h : Rel g w v rv) : Rel g' w' v rv := by
  induction h with
  | undef v => exact .undef v
  | bool b => exact .bool b
  | int k n => exact .int k n
  | str s => exact .str s
  | nilp => exact .nilp
  | ip f h _ ih => exact .ip f (fun k v hk => ⟨fr.frozen _ _ (h k v hk).1, fr.cell (h k v hk).1 (h k v hk).2.1, (h k v hk).2.2⟩) ih
  | @ref id off hn =>
    rw [← fr.loc id hn]
    exact .ref (Nat.lt_of_lt_of_le hn fr.nxt)
  | fresh a => exact .fresh a
  | slnil f sz => exact .slnil f sz
  | sl fv hc hl h _ hs ih => exact .sl fv hc hl (fun j c k v hj hk => ⟨fr.frozen _ _ (h j c k v hj hk).1, fr.cell (h j c k v hj hk).1 (h j c k v hj hk).2.1, (h j c k v hj hk).2.2⟩) ih
  | agg hl h1 _ ih => exact .agg hl h1 ih
  | tup hl _ ih => exact .tup hl ih
  | fn hl hm _ _ ih1 ih2 => exact .fn hl hm ih1 ih2
  | nilf => exact .nilf
  | ifc t _ ih => exact .ifc t ih
  | nili => exact .nili
  | nils => exact .nils
  | arr0 f id off sz a cap h => exact .arr0 f id off sz a cap h
  | arr f hn hc =>
    rw [← fr.loc _ hn]
    exact .arr f (Nat.lt_of_lt_of_le hn fr.nxt) hc
  | np f hb h _ ih => exact .np f (fr.noMark hb) (fun k v hk => ⟨fr.frozen _ _ (h k v hk).1, fr.cell (h k v hk).1 (h k v hk).2.1, (h k v hk).2.2⟩) ih

/-! ### slots -/

/-- What a slot owns beside its value: a slice's room behind its end; a block that waits for its first value. -/
def Tail (g : Gh) (w : World) (t : Nat) : PV → Value → Prop
  | .sl .tail sz rows, .slice (some a) _ cap => (cap * sz = 0 ∨ a.spot = none) ∧ ∀ k, rows.length * sz ≤ k → k < cap * sz → g.lab a.block (a.off + k) = .slot t ∧ (w.cell? ⟨a.block, a.off + k, none⟩).isSome = true ∧ w.frozen? ⟨a.block, a.off + k, none⟩ = false
  | .arr .tail id off len sz, .slice (some a) _ cap => ((cap * sz = 0 ∨ a.spot = none) ∧ id < g.nxt ∧ (a.block, a.off) = ((g.loc id).1, (g.loc id).2 + off)) ∧ ∀ k, len * sz ≤ k → k < cap * sz → g.lab a.block (a.off + k) = .slot t ∧ (w.cell? ⟨a.block, a.off + k, none⟩).isSome = true ∧ w.frozen? ⟨a.block, a.off + k, none⟩ = false
  | .fresh n, .pointer (some a) => (a.spot = none ∧ NoMark w a.block) ∧ ∀ k, k < n → g.lab a.block (a.off + k) = .slot t ∧ (w.cell? ⟨a.block, a.off + k, none⟩).isSome = true ∧ w.frozen? ⟨a.block, a.off + k, none⟩ = false
  | _, _ => True

structure Top (g : Gh) (w : World) (t : Nat) (v : PV) (rv : Value) : Prop where
  rel : Rel g w v rv
  tail : Tail g w t v rv

abbrev Env := Nat → PV
abbrev Store := Nat → Option (List PV)

def Env.put (e : Env) (d : Nat) (v : PV) : Env := fun t => if t = d then v else e t
def Env.putO (e : Env) : Option Nat → PV → Env
  | some d, v => e.put d v
  | none, _ => e
def Store.set (S : Store) (id : Nat) (c : Option (List PV)) : Store := fun i => if i = id then c else S i

/-- What an object's cell owns beside its value. -/
def RoomOk (g : Gh) (w : World) (id k0 : Nat) : PV → Value → Prop
  | .sl .tail sz rows, .slice (some a) _ cap => (cap * sz = 0 ∨ a.spot = none) ∧ ∀ k, rows.length * sz ≤ k → k < cap * sz → g.lab a.block (a.off + k) = .room id k0 ∧ (w.cell? ⟨a.block, a.off + k, none⟩).isSome = true ∧ w.frozen? ⟨a.block, a.off + k, none⟩ = false
  | _, _ => True

theorem RoomOk.map {g g' : Gh} {w w' : World} {id k0 : Nat} {v : PV} {rv : Value} (hk : ∀ b o, g.lab b o = .room id k0 ∧ (w.cell? ⟨b, o, none⟩).isSome = true ∧ w.frozen? ⟨b, o, none⟩ = false → g'.lab b o = .room id k0 ∧ (w'.cell? ⟨b, o, none⟩).isSome = true ∧ w'.frozen? ⟨b, o, none⟩ = false)
    (h : RoomOk g w id k0 v rv) : RoomOk g' w' id k0 v rv := by
  unfold RoomOk at *
  split at h
  · exact ⟨h.1, fun k h1 h2 => hk _ _ (h.2 k h1 h2)⟩
  · trivial

structure ObjOk (g : Gh) (w : World) (id : Nat) (cells : List PV) : Prop where
  lt : id < g.nxt
  cell : ∀ k v, cells[k]? = some v → g.lab (g.loc id).1 ((g.loc id).2 + k) = .obj id ∧ w.frozen? ⟨(g.loc id).1, (g.loc id).2 + k, none⟩ = false ∧
    ∃ rv, w.cell? ⟨(g.loc id).1, (g.loc id).2 + k, none⟩ = some rv ∧ rv.oneCell' = true ∧ Rel g w v rv ∧ RoomOk g w id k v rv

structure St (n : Nat) (g : Gh) (w : World) (env : Env) (S : Store) (tmps : Array Value) : Prop where
  size : tmps.size = n
  slots : ∀ t, t < n → Top g w t (env t) (tmps.getD t Go.undef)
  beyond : ∀ t, n ≤ t → env t = .undef
  objs : ∀ id cells, S id = some cells → ObjOk g w id cells
  new : ∀ b o, w.heap.size ≤ b → g.lab b o = .free

/-- A step in which what is owned stays as it was. -/
structure Quiet (g g' : Gh) (w w' : World) : Prop extends Fr g g' w w' where
  same : ∀ b o, b < w.heap.size → (g.lab b o).own → g'.lab b o = g.lab b o ∧ w'.cell? ⟨b, o, none⟩ = w.cell? ⟨b, o, none⟩
  new : ∀ b o, w'.heap.size ≤ b → g'.lab b o = .free

theorem Quiet.trans {g g1 g2 : Gh} {w w1 w2 : World} (h : Quiet g g1 w w1) (k : Quiet g1 g2 w1 w2) : Quiet g g2 w w2 where
  toFr := h.toFr.trans k.toFr
  same b o hb hl := by
    have h1 := h.same b o hb hl
    have h2 := k.same b o (Nat.lt_of_lt_of_le hb h.size) (by rw [h1.1]; exact hl)
    exact ⟨h2.1.trans h1.1, h2.2.trans h1.2⟩
  new := k.new
theorem Quiet.refl {g : Gh} {w : World} (hn : ∀ b o, w.heap.size ≤ b → g.lab b o = .free) : Quiet g g w w := ⟨Fr.refl _ _, fun _ _ _ _ => ⟨rfl, rfl⟩, hn⟩

theorem lt_of_isSome {w : World} {b o : Nat} (h : (w.cell? ⟨b, o, none⟩).isSome = true) : b < w.heap.size := by
  obtain ⟨v, hv⟩ := Option.isSome_iff_exists.1 h
  exact World.block_lt_of_cell? w _ hv

theorem Tail.quiet {g g' : Gh} {w w' : World} (q : Quiet g g' w w') {t : Nat} {v : PV} {rv : Value} (h : Tail g w t v rv) : Tail g' w' t v rv := by
  unfold Tail at *
  split at h
  · refine ⟨h.1, fun k h1 h2 => ?_⟩
    obtain ⟨a1, a2, a3⟩ := h.2 k h1 h2
    have hb := lt_of_isSome a2
    have hs := q.same _ _ hb (by rw [a1]; trivial)
    exact ⟨hs.1.trans a1, q.some _ _ a2, (q.mark _ _ hb).trans a3⟩
  · refine ⟨⟨h.1.1, Nat.lt_of_lt_of_le h.1.2.1 q.nxt, by rw [q.loc _ h.1.2.1]; exact h.1.2.2⟩, fun k h1 h2 => ?_⟩
    obtain ⟨a1, a2, a3⟩ := h.2 k h1 h2
    have hb := lt_of_isSome a2
    have hs := q.same _ _ hb (by rw [a1]; trivial)
    exact ⟨hs.1.trans a1, q.some _ _ a2, (q.mark _ _ hb).trans a3⟩
  · refine ⟨⟨h.1.1, q.noMark h.1.2⟩, fun k h1 => ?_⟩
    obtain ⟨a1, a2, a3⟩ := h.2 k h1
    have hb := lt_of_isSome a2
    have hs := q.same _ _ hb (by rw [a1]; trivial)
    exact ⟨hs.1.trans a1, q.some _ _ a2, (q.mark _ _ hb).trans a3⟩
  · trivial

theorem Top.quiet {g g' : Gh} {w w' : World} (q : Quiet g g' w w') {t : Nat} {v : PV} {rv : Value} (h : Top g w t v rv) : Top g' w' t v rv := ⟨h.rel.mono q.toFr, h.tail.quiet q⟩

theorem ObjOk.quiet {g g' : Gh} {w w' : World} (q : Quiet g g' w w') {id : Nat} {cells : List PV} (h : ObjOk g w id cells) : ObjOk g' w' id cells where
  lt := Nat.lt_of_lt_of_le h.lt q.nxt
  cell k v hk := by
    rw [q.loc id h.lt]
    obtain ⟨a1, a2, rv, a3, a4, a5, a6⟩ := h.cell k v hk
    have hb := World.block_lt_of_cell? w _ a3
    have hs := q.same _ _ hb (by rw [a1]; trivial)
    exact ⟨hs.1.trans a1, (q.mark _ _ hb).trans a2, rv, hs.2.trans a3, a4, a5.mono q.toFr, a6.map fun b o ⟨c1, c2, c3⟩ => by
      have hb := lt_of_isSome c2
      have hs := q.same _ _ hb (by rw [c1]; trivial)
      exact ⟨hs.1.trans c1, q.some _ _ c2, (q.mark _ _ hb).trans c3⟩⟩

theorem St.quiet {n : Nat} {g g' : Gh} {w w' : World} {env : Env} {S : Store} {tmps : Array Value} (q : Quiet g g' w w') (h : St n g w env S tmps) : St n g' w' env S tmps where
  size := h.size
  slots t ht := (h.slots t ht).quiet q
  beyond := h.beyond
  objs id cells hi := (h.objs id cells hi).quiet q
  new := q.new

theorem getD_set_self (a : Array Value) (d : Nat) (v x : Value) (h : d < a.size) : (a.setIfInBounds d v).getD d x = v := by simp [Array.getD, h]
theorem getD_set_ne (a : Array Value) (d t : Nat) (v x : Value) (h : t ≠ d) : (a.setIfInBounds d v).getD t x = a.getD t x := by
  simp only [Array.getD_eq_getD_getElem?, Array.getElem?_setIfInBounds_ne (Ne.symm h)]

theorem St.put {n : Nat} {g : Gh} {w : World} {env : Env} {S : Store} {tmps : Array Value} (h : St n g w env S tmps) {d : Nat} (hd : d < n) {v : PV} {rv : Value} (hv : Top g w d v rv) :
    St n g w (env.put d v) S (tmps.setIfInBounds d rv) where
  size := by simp [h.size]
  slots t ht := by
    by_cases e : t = d
    · subst e
      rw [getD_set_self _ _ _ _ (by rw [h.size]; exact ht)]
      simpa [Env.put] using hv
    · rw [getD_set_ne _ _ _ _ _ e]
      simpa [Env.put, e] using h.slots t ht
  beyond t ht := by
    have : t ≠ d := by omega
    simpa [Env.put, this] using h.beyond t ht
  objs := h.objs
  new := h.new

theorem St.drop {n : Nat} {g : Gh} {w : World} {env : Env} {S S' : Store} {tmps : Array Value} (h : St n g w env S tmps) (hs : ∀ id c, S' id = some c → S id = some c) : St n g w env S' tmps :=
  { h with objs := fun id c hi => h.objs id c (hs id c hi) }

/-- Without flags. -/
def PV.bare : PV → PV
  | .sl _ sz rows => .sl .no sz rows
  | .fresh _ => .undef
  | .arr _ id off len sz => .arr .no id off len sz
  | v => v
theorem Rel.bare {g : Gh} {w : World} {v : PV} {rv : Value} (h : Rel g w v rv) : Rel g w v.bare rv := by
  cases h with
  | slnil f sz => exact .slnil .no sz
  | sl fv hc hl h hr hs => exact .sl fv hc hl h hr hs
  | fresh a => exact .undef _
  | undef => exact .undef _
  | bool b => exact .bool b
  | int k n => exact .int k n
  | str s => exact .str s
  | nilp => exact .nilp
  | ip f h hr => exact .ip f h hr
  | ref hn => exact .ref hn
  | agg hl h1 hr => exact .agg hl h1 hr
  | tup hl hr => exact .tup hl hr
  | fn hl hm h1 h2 => exact .fn hl hm h1 h2
  | nilf => exact .nilf
  | ifc t h => exact .ifc t h
  | nili => exact .nili
  | nils => exact .nils
  | arr0 f id off sz a cap h => exact .arr0 .no id off sz a cap h
  | arr f hn hc => exact .arr .no hn hc
  | np f hb h hr => exact .np f hb h hr
theorem Tail.bare (g : Gh) (w : World) (t : Nat) (v : PV) (rv : Value) : Tail g w t v.bare rv := by
  cases v <;> simp [PV.bare, Tail]
theorem Top.bare {g : Gh} {w : World} {t u : Nat} {v : PV} {rv : Value} (h : Top g w t v rv) : Top g w u v.bare rv := ⟨h.rel.bare, Tail.bare _ _ _ _ _⟩
theorem Top.ofRel {g : Gh} {w : World} {t : Nat} {v : PV} {rv : Value} (h : Rel g w v rv) (hb : v.bare = v) : Top g w t v rv := ⟨h, by have := Tail.bare g w t v rv; rwa [hb] at this⟩
theorem RoomOk.bare (g : Gh) (w : World) (id k0 : Nat) (v : PV) (rv : Value) : RoomOk g w id k0 v.bare rv := by
  cases v <;> simp [PV.bare, RoomOk]
theorem RoomOk.ofBare {g : Gh} {w : World} {id k0 : Nat} {v : PV} {rv : Value} (hb : v.bare = v) : RoomOk g w id k0 v rv := by have := RoomOk.bare g w id k0 v rv; rwa [hb] at this
theorem ObjOk.bareCells {g : Gh} {w : World} {id : Nat} {cells : List PV} (h : ObjOk g w id cells) : ObjOk g w id (cells.map PV.bare) where
  lt := h.lt
  cell k v hk := by
    simp only [List.getElem?_map, Option.map_eq_some_iff] at hk
    obtain ⟨u, hu, rfl⟩ := hk
    obtain ⟨a1, a2, rv, a3, a4, a5, a6⟩ := h.cell k u hu
    exact ⟨a1, a2, rv, a3, a4, a5.bare, RoomOk.bare _ _ _ _ _ _⟩
/-- A zero value, as it stands in a new object: a nil slice has room for itself. -/
def PV.opn : PV → PV
  | .sl _ sz [] => .sl .tail sz []
  | v => v.bare
theorem PV.bare_bare (v : PV) : v.bare.bare = v.bare := by cases v <;> rfl
theorem Top.ofBare {g : Gh} {w : World} {t : Nat} {v : PV} {rv : Value} (h : Rel g w v rv) : Top g w t v.bare rv := ⟨h.bare, Tail.bare _ _ _ _ _⟩
end Go.VL
