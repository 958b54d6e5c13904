/- VL, part 1: what real memory means, in plain values: labels of cells, the relation, what stays. -/
import Derived.Deep.AppendSrc
import Derived.Orders
import Derived.RowKit3
import Derived.Below
import Derived.KernelRfl
import Derived.WalkKit
import Derived.Laws.Slices
import Derived.Laws.StructEq
import Derived.Laws.BytesString
import Derived.Laws.IdiomStrings
set_option linter.unusedVariables false
set_option linter.unusedSimpArgs false
namespace Go.VL
open Go

inductive Fl where
 | no | tail
 deriving DecidableEq, Inhabited

/-- A plain value: pointers to what never changes hold what stands there; so do slices. -/
inductive PV where
 | undef
 | bool (b : Bool)
 | int (k : IntKind) (n : Int)
 | str (s : ByteArray)
 | nilp
 | ip (cells : List PV) (off : Nat)
 | ref (id off : Nat)
 | fresh (n : Nat)
 | sl (f : Fl) (sz : Nat) (rows : List (List PV))
 | agg (cells : List PV)
 | tup (vs : List PV)
 | fn (f : Fn) (first captured : List PV)
 | nilf
 | ifc (t : TypeId) (v : PV)
 | nili
 | nils
 | arr (f : Fl) (id off len sz : Nat)
 | np (cells : List PV)
 | nq (b o : Nat) (cells : List PV)
 | siter (b : Nat) (s : ByteArray) (pos : Nat)
 | mapo (b : Nat) (L : List (ByteArray × Value))
 | mapr (b : Nat)
 | mref (id : Nat)
 | mcon (clock : Nat) (ks : List (Nat × ByteArray)) (vs : List PV)
 | nilm
 | miter (b id since last : Nat) (seen : List Nat)
 deriving Inhabited

inductive Lab where
 | free | frozen | foreign
 | slot (t : Nat)
 | obj (id : Nat)
 | room (id k : Nat)
 deriving DecidableEq, Inhabited

def Lab.own : Lab → Prop
 | .slot _ => True
 | .obj _ => True
 | .room _ _ => True
 | _ => False

structure Gh where
 lab : Nat → Nat → Lab
 loc : Nat → Nat × Nat
 nxt : Nat
 knd : Nat → Bool

/-- A block of which no cell is marked as never to be written. -/
def NoMark (w : World) (b : Nat) : Prop := b < w.heap.size ∧ ∀ o, w.frozen? ⟨b, o, none⟩ = false

inductive Rel (g : Gh) (w : World) : PV → Value → Prop where
 | undef (v : Value) : Rel g w .undef v
 | bool (b : Bool) : Rel g w (.bool b) (.bool b)
 | int (k : IntKind) (n : Int) : Rel g w (.int k n) (.int k n)
 | str (s : ByteArray) : Rel g w (.str s) (.string s)
 | nilp : Rel g w .nilp (.pointer none)
 | ip {cells : List PV} {off b o : Nat} (f : Nat → Value) (h : ∀ (k : Nat) (v : PV), cells[k]? = some v → g.lab b (o + k) = .frozen ∧ w.cell? ⟨b, o + k, none⟩ = some (f k) ∧ (f k).oneCell' = true)
   (hr : ∀ (k : Nat) (v : PV), cells[k]? = some v → Rel g w v (f k)) : Rel g w (.ip cells off) (.pointer (some ⟨b, o + off, none⟩))
 | ref {id off : Nat} (h : id < g.nxt) (hk : g.knd id = false) : Rel g w (.ref id off) (.pointer (some ⟨(g.loc id).1, (g.loc id).2 + off, none⟩))
 | fresh {n : Nat} (a : Addr) : Rel g w (.fresh n) (.pointer (some a))
 | slnil (f : Fl) (sz : Nat) : Rel g w (.sl f sz []) (.slice none 0 0)
 | sl {f : Fl} {sz : Nat} {rows : List (List PV)} {b o cap : Nat} {sp : Option Nat} (fv : Nat → Nat → Value) (hc : rows.length ≤ cap) (hl : ∀ (j : Nat) (c : List PV), rows[j]? = some c → c.length = sz)
   (h : ∀ (j : Nat) (c : List PV) (k : Nat) (v : PV), rows[j]? = some c → c[k]? = some v → g.lab b (o + (j * sz + k)) = .frozen ∧ w.cell? ⟨b, o + (j * sz + k), none⟩ = some (fv j k) ∧ (fv j k).oneCell' = true)
   (hr : ∀ (j : Nat) (c : List PV) (k : Nat) (v : PV), rows[j]? = some c → c[k]? = some v → Rel g w v (fv j k))
   (hs : rows = [] ∨ sp = none := by first | exact .inr rfl | assumption) : Rel g w (.sl f sz rows) (.slice (some ⟨b, o, sp⟩) rows.length cap)
 | agg {cs : List PV} {vs : Array Value} (hl : cs.length = vs.size) (h1 : ∀ (k : Nat) rv, vs[k]? = some rv → rv.oneCell' = true) (hr : ∀ (k : Nat) v rv, cs[k]? = some v → vs[k]? = some rv → Rel g w v rv) : Rel g w (.agg cs) (.agg vs)
 | tup {cs : List PV} {vs : Array Value} (hl : cs.length = vs.size) (hr : ∀ (k : Nat) v rv, cs[k]? = some v → vs[k]? = some rv → Rel g w v rv) : Rel g w (.tup cs) (.tuple vs)
 | fn {f : Fn} {as bs : List PV} {vs us : Array Value} (hl : as.length = vs.size) (hm : bs.length = us.size) (hr : ∀ (k : Nat) v rv, as[k]? = some v → vs[k]? = some rv → Rel g w v rv)
   (hs : ∀ (k : Nat) v rv, bs[k]? = some v → us[k]? = some rv → Rel g w v rv) : Rel g w (.fn f as bs) (.func f vs us)
 | nilf : Rel g w .nilf .nilFunc
 | ifc (t : TypeId) {v : PV} {rv : Value} (hr : Rel g w v rv) : Rel g w (.ifc t v) (.iface t rv)
 | nili : Rel g w .nili .nilIface
 | nils : Rel g w .nils (.slice none 0 0)
 | arr0 (f : Fl) (id off sz : Nat) (a : Option Addr) (cap : Nat) (h : a = none → cap = 0) : Rel g w (.arr f id off 0 sz) (.slice a 0 cap)
 | arr (f : Fl) {id off len sz cap : Nat} (h : id < g.nxt) (hc : len ≤ cap) (hk : g.knd id = false) : Rel g w (.arr f id off len sz) (.slice (some ⟨(g.loc id).1, (g.loc id).2 + off, none⟩) len cap)
 | np {cells : List PV} {b o : Nat} (f : Nat → Value) (hb : NoMark w b) (h : ∀ (k : Nat) (v : PV), cells[k]? = some v → g.lab b (o + k) = .frozen ∧ w.cell? ⟨b, o + k, none⟩ = some (f k) ∧ (f k).oneCell' = true)
   (hr : ∀ (k : Nat) (v : PV), cells[k]? = some v → Rel g w v (f k)) : Rel g w (.np cells) (.pointer (some ⟨b, o, none⟩))
 | nq {cells : List PV} {b o : Nat} (f : Nat → Value) (hb : NoMark w b) (h : ∀ (k : Nat) (v : PV), cells[k]? = some v → g.lab b (o + k) = .frozen ∧ w.cell? ⟨b, o + k, none⟩ = some (f k) ∧ (f k).oneCell' = true)
   (hr : ∀ (k : Nat) (v : PV), cells[k]? = some v → Rel g w v (f k)) : Rel g w (.nq b o cells) (.pointer (some ⟨b, o, none⟩))
 | siter (b : Nat) (s : ByteArray) (pos : Nat) : Rel g w (.siter b s pos) (.pointer (some ⟨b, 0, none⟩))
 | mapo (b : Nat) (L : List (ByteArray × Value)) : Rel g w (.mapo b L) (.map (some b))
 | mapr (b : Nat) : Rel g w (.mapr b) (.map (some b))
 | mref {id : Nat} (h : id < g.nxt) (hk : g.knd id = true) : Rel g w (.mref id) (.map (some (g.loc id).1))
 | nilm : Rel g w .nilm (.map none)
 | miter (b id since last : Nat) (seen : List Nat) : Rel g w (.miter b id since last seen) (.pointer (some ⟨b, 0, none⟩))

/-- What a step leaves as it was. -/
structure Fr (g g' : Gh) (w w' : World) : Prop where
 os : w'.os = w.os
 tape : w'.tape = w.tape
 output : w'.output = w.output
 size : w.heap.size ≤ w'.heap.size
 frozen : ∀ b o, g.lab b o = .frozen → g'.lab b o = .frozen
 foreign : ∀ b o, g.lab b o = .foreign → g'.lab b o = .foreign
 own : ∀ b o, b < w.heap.size → (g'.lab b o).own → (g.lab b o).own
 kept : ∀ b o, b < w.heap.size → ¬ (g.lab b o).own → w'.cell? ⟨b, o, none⟩ = w.cell? ⟨b, o, none⟩
 mark : ∀ b o, b < w.heap.size → w'.frozen? ⟨b, o, none⟩ = w.frozen? ⟨b, o, none⟩
 some : ∀ b o, (w.cell? ⟨b, o, none⟩).isSome = true → (w'.cell? ⟨b, o, none⟩).isSome = true
 block : ∀ b, b < w.heap.size → (∀ o, ¬ (g.lab b o).own) → w'.heap[b]? = w.heap[b]?
 loc : ∀ id, id < g.nxt → g'.loc id = g.loc id
 nxt : g.nxt ≤ g'.nxt
 knd : ∀ id, id < g.nxt → g'.knd id = g.knd id

theorem Fr.refl (g : Gh) (w : World) : Fr g g w w :=
 ⟨rfl, rfl, rfl, Nat.le_refl _, fun _ _ h => h, fun _ _ h => h, fun _ _ _ h => h, fun _ _ _ _ => rfl, fun _ _ _ => rfl, fun _ _ h => h, fun _ _ _ => rfl, fun _ _ => rfl, Nat.le_refl _, fun _ _ => rfl⟩

theorem Fr.trans {g g1 g2 : Gh} {w w1 w2 : World} (h : Fr g g1 w w1) (k : Fr g1 g2 w1 w2) : Fr g g2 w w2 where
 os := k.os.trans h.os
 tape := k.tape.trans h.tape
 output := k.output.trans h.output
 size := Nat.le_trans h.size k.size
 frozen b o hl := k.frozen b o (h.frozen b o hl)
 foreign b o hl := k.foreign b o (h.foreign b o hl)
 own b o hb hl := h.own b o hb (k.own b o (Nat.lt_of_lt_of_le hb h.size) hl)
 kept b o hb hl := (k.kept b o (Nat.lt_of_lt_of_le hb h.size) (fun h1 => hl (h.own b o hb h1))).trans (h.kept b o hb hl)
 mark b o hb := (k.mark b o (Nat.lt_of_lt_of_le hb h.size)).trans (h.mark b o hb)
 some b o hs := k.some b o (h.some b o hs)
 block b hb hl := (k.block b (Nat.lt_of_lt_of_le hb h.size) (fun o h1 => hl o (h.own b o hb h1))).trans (h.block b hb hl)
 loc id hi := (k.loc id (Nat.lt_of_lt_of_le hi h.nxt)).trans (h.loc id hi)
 nxt := Nat.le_trans h.nxt k.nxt
 knd id hi := (k.knd id (Nat.lt_of_lt_of_le hi h.nxt)).trans (h.knd id hi)

theorem Fr.cell {g g' : Gh} {w w' : World} (h : Fr g g' w w') {b o : Nat} {v : Value} (hl : g.lab b o = .frozen) (hc : w.cell? ⟨b, o, none⟩ = Option.some v) : w'.cell? ⟨b, o, none⟩ = Option.some v := by
 have hb := World.block_lt_of_cell? w _ hc
 rw [h.kept b o hb (by rw [hl]; exact fun h => h)]
 exact hc

theorem Fr.noMark {g g' : Gh} {w w' : World} (h : Fr g g' w w') {b : Nat} (hb : NoMark w b) : NoMark w' b :=
 ⟨Nat.lt_of_lt_of_le hb.1 h.size, fun o => (h.mark b o hb.1).trans (hb.2 o)⟩

theorem Rel.mono {g g' : Gh} {w w' : World} (fr : Fr g g' w w') {v : PV} {rv : Value} (h : Rel g w v rv) : Rel g' w' v rv := by
 induction h with
 | undef v => exact .undef v
 | bool b => exact .bool b
 | int k n => exact .int k n
 | str s => exact .str s
 | nilp => exact .nilp
 | ip f h _ ih => exact .ip f (fun k v hk => ⟨fr.frozen _ _ (h k v hk).1, fr.cell (h k v hk).1 (h k v hk).2.1, (h k v hk).2.2⟩) ih
 | @ref id off hn hk =>
  rw [← fr.loc id hn]
  exact .ref (Nat.lt_of_lt_of_le hn fr.nxt) ((fr.knd id hn).trans hk)
 | fresh a => exact .fresh a
 | slnil f sz => exact .slnil f sz
 | sl fv hc hl h _ hs ih => exact .sl fv hc hl (fun j c k v hj hk => ⟨fr.frozen _ _ (h j c k v hj hk).1, fr.cell (h j c k v hj hk).1 (h j c k v hj hk).2.1, (h j c k v hj hk).2.2⟩) ih
 | agg hl h1 _ ih => exact .agg hl h1 ih
 | tup hl _ ih => exact .tup hl ih
 | fn hl hm _ _ ih1 ih2 => exact .fn hl hm ih1 ih2
 | nilf => exact .nilf
 | ifc t _ ih => exact .ifc t ih
 | nili => exact .nili
 | nils => exact .nils
 | arr0 f id off sz a cap h => exact .arr0 f id off sz a cap h
 | arr f hn hc hk =>
  rw [← fr.loc _ hn]
  exact .arr f (Nat.lt_of_lt_of_le hn fr.nxt) hc ((fr.knd _ hn).trans hk)
 | np f hb h _ ih => exact .np f (fr.noMark hb) (fun k v hk => ⟨fr.frozen _ _ (h k v hk).1, fr.cell (h k v hk).1 (h k v hk).2.1, (h k v hk).2.2⟩) ih
 | nq f hb h _ ih => exact .nq f (fr.noMark hb) (fun k v hk => ⟨fr.frozen _ _ (h k v hk).1, fr.cell (h k v hk).1 (h k v hk).2.1, (h k v hk).2.2⟩) ih
 | siter b s pos => exact .siter b s pos
 | mapo b L => exact .mapo b L
 | mapr b => exact .mapr b
 | mref hn hk =>
  rw [← fr.loc _ hn]
  exact .mref (Nat.lt_of_lt_of_le hn fr.nxt) ((fr.knd _ hn).trans hk)
 | nilm => exact .nilm
 | miter b id since last seen => exact .miter b id since last seen

/-! ### slots -/

/-- What a slot owns beside its value: a slice's room behind its end; a block that waits for its first value. -/
def Tail (g : Gh) (w : World) (t : Nat) : PV → Value → Prop
 | .sl .tail sz rows, .slice (some a) _ cap => (cap * sz = 0 ∨ a.spot = none) ∧ ∀ k, rows.length * sz ≤ k → k < cap * sz → g.lab a.block (a.off + k) = .slot t ∧ (w.cell? ⟨a.block, a.off + k, none⟩).isSome = true ∧ w.frozen? ⟨a.block, a.off + k, none⟩ = false
 | .arr .tail id off len sz, .slice (some a) _ cap => ((cap * sz = 0 ∨ a.spot = none) ∧ id < g.nxt ∧ g.knd id = false ∧ (a.block, a.off) = ((g.loc id).1, (g.loc id).2 + off)) ∧ ∀ k, len * sz ≤ k → k < cap * sz → g.lab a.block (a.off + k) = .slot t ∧ (w.cell? ⟨a.block, a.off + k, none⟩).isSome = true ∧ w.frozen? ⟨a.block, a.off + k, none⟩ = false
 | .siter b s pos, _ => (∀ o, g.lab b o = .slot t) ∧ w.heap[b]? = some (.stringIter s pos)
 | .mapo b L, _ => (∀ o, g.lab b o = .slot t) ∧ ∃ es clock, w.heap[b]? = some (.map es clock) ∧ es.toList.map (fun e => (e.key, e.val)) = L.map fun p => (Value.string p.1, p.2)
 | .miter b id since last seen, _ => (∀ o, g.lab b o = .slot t) ∧ (id < g.nxt ∧ g.knd id = true) ∧ w.heap[b]? = some (.mapIter (some (g.loc id).1) since seen.toArray last) ∧ since ≤ last
 | .fresh n, .pointer (some a) => (a.spot = none ∧ NoMark w a.block) ∧ ∀ k, k < n → g.lab a.block (a.off + k) = .slot t ∧ (w.cell? ⟨a.block, a.off + k, none⟩).isSome = true ∧ w.frozen? ⟨a.block, a.off + k, none⟩ = false
 | _, _ => True

structure Top (g : Gh) (w : World) (t : Nat) (v : PV) (rv : Value) : Prop where
 rel : Rel g w v rv
 tail : Tail g w t v rv

abbrev Env := Nat → PV
abbrev Store := Nat → Option (List PV)

def Env.put (e : Env) (d : Nat) (v : PV) : Env := fun t => if t = d then v else e t
def Env.putO (e : Env) : Option Nat → PV → Env
 | some d, v => e.put d v
 | none, _ => e
def Store.set (S : Store) (id : Nat) (c : Option (List PV)) : Store := fun i => if i = id then c else S i

/-- What an object's cell owns beside its value. -/
def RoomOk (g : Gh) (w : World) (id k0 : Nat) : PV → Value → Prop
 | .sl .tail sz rows, .slice (some a) _ cap => (cap * sz = 0 ∨ a.spot = none) ∧ ∀ k, rows.length * sz ≤ k → k < cap * sz → g.lab a.block (a.off + k) = .room id k0 ∧ (w.cell? ⟨a.block, a.off + k, none⟩).isSome = true ∧ w.frozen? ⟨a.block, a.off + k, none⟩ = false
 | _, _ => True

theorem RoomOk.map {g g' : Gh} {w w' : World} {id k0 : Nat} {v : PV} {rv : Value} (hk : ∀ b o, g.lab b o = .room id k0 ∧ (w.cell? ⟨b, o, none⟩).isSome = true ∧ w.frozen? ⟨b, o, none⟩ = false → g'.lab b o = .room id k0 ∧ (w'.cell? ⟨b, o, none⟩).isSome = true ∧ w'.frozen? ⟨b, o, none⟩ = false)
  (h : RoomOk g w id k0 v rv) : RoomOk g' w' id k0 v rv := by
 unfold RoomOk at *
 split at h
 ·exact ⟨h.1, fun k h1 h2 => hk _ _ (h.2 k h1 h2)⟩
 ·trivial

/-- Without flags. -/
def PV.bare : PV → PV
 | .sl _ sz rows => .sl .no sz rows
 | .fresh _ => .undef
 | .arr _ id off len sz => .arr .no id off len sz
 | .siter _ _ _ => .undef
 | .mapo b _ => .mapr b
 | .miter _ _ _ _ _ => .undef
 | v => v
/-- A map that is an object. -/
def MapOk (g : Gh) (w : World) (id : Nat) (cells : List PV) : Prop :=
 ∃ clock ks vs es, cells = [.mcon clock ks vs] ∧ (∀ o, g.lab (g.loc id).1 o = .obj id) ∧ w.heap[(g.loc id).1]? = some (.map es clock) ∧ es.toList.map (fun e => (e.born, e.key)) = ks.map (fun k => (k.1, Value.string k.2)) ∧ vs.length = ks.length ∧
  ∀ (i : Nat) (e : MapEntry) (v : PV), es[i]? = some e → vs[i]? = some v → Rel g w v e.val ∧ v.bare = v
theorem MapOk.map {g g' : Gh} {w w' : World} {id : Nat} {cells : List PV} (h : MapOk g w id cells) (hloc : g'.loc id = g.loc id) (hlab : ∀ b o, g.lab b o = .obj id → g'.lab b o = .obj id)
  (hheap : ∀ b, (∀ o, g.lab b o = .obj id) → ∀ es cl, w.heap[b]? = some (.map es cl) → w'.heap[b]? = some (.map es cl)) (hrel : ∀ v rv, Rel g w v rv → Rel g' w' v rv) : MapOk g' w' id cells := by
 obtain ⟨cl, ks, vs, es, h1, h2, h3, h4, h5, h6⟩ := h
 exact ⟨cl, ks, vs, es, h1, fun o => by rw [hloc]; exact hlab _ _ (h2 o), by rw [hloc]; exact hheap _ h2 _ _ h3, h4, h5, fun i e v he hv => ⟨hrel _ _ (h6 i e v he hv).1, (h6 i e v he hv).2⟩⟩
structure ObjOk (g : Gh) (w : World) (id : Nat) (cells : List PV) : Prop where
 lt : id < g.nxt
 cell : g.knd id = false → ∀ k v, cells[k]? = some v → g.lab (g.loc id).1 ((g.loc id).2 + k) = .obj id ∧ w.frozen? ⟨(g.loc id).1, (g.loc id).2 + k, none⟩ = false ∧
  ∃ rv, w.cell? ⟨(g.loc id).1, (g.loc id).2 + k, none⟩ = some rv ∧ rv.oneCell' = true ∧ Rel g w v rv ∧ RoomOk g w id k v rv
 mp : g.knd id = true → MapOk g w id cells

structure St (n : Nat) (g : Gh) (w : World) (env : Env) (S : Store) (tmps : Array Value) : Prop where
 size : tmps.size = n
 slots : ∀ t, t < n → Top g w t (env t) (tmps.getD t Go.undef)
 beyond : ∀ t, n ≤ t → env t = .undef
 objs : ∀ id cells, S id = some cells → ObjOk g w id cells
 new : ∀ b o, w.heap.size ≤ b → g.lab b o = .free

/-- A step in which what is owned stays as it was. -/
structure Quiet (g g' : Gh) (w w' : World) : Prop extends Fr g g' w w' where
 same : ∀ b o, b < w.heap.size → (g.lab b o).own → g'.lab b o = g.lab b o ∧ w'.cell? ⟨b, o, none⟩ = w.cell? ⟨b, o, none⟩
 new : ∀ b o, w'.heap.size ≤ b → g'.lab b o = .free
 whole : ∀ b, b < w.heap.size → w'.heap[b]? = w.heap[b]?

theorem lt_of_heap {w : World} {b : Nat} {x : Obj} (h : w.heap[b]? = some x) : b < w.heap.size := (Array.getElem?_eq_some_iff.1 h).1
theorem Quiet.trans {g g1 g2 : Gh} {w w1 w2 : World} (h : Quiet g g1 w w1) (k : Quiet g1 g2 w1 w2) : Quiet g g2 w w2 where
 toFr := h.toFr.trans k.toFr
 same b o hb hl := by
  have h1 := h.same b o hb hl
  have h2 := k.same b o (Nat.lt_of_lt_of_le hb h.size) (by rw [h1.1]; exact hl)
  exact ⟨h2.1.trans h1.1, h2.2.trans h1.2⟩
 new := k.new
 whole b hb := (k.whole b (Nat.lt_of_lt_of_le hb h.size)).trans (h.whole b hb)
theorem Quiet.refl {g : Gh} {w : World} (hn : ∀ b o, w.heap.size ≤ b → g.lab b o = .free) : Quiet g g w w := ⟨Fr.refl _ _, fun _ _ _ _ => ⟨rfl, rfl⟩, hn, fun _ _ => rfl⟩

theorem lt_of_isSome {w : World} {b o : Nat} (h : (w.cell? ⟨b, o, none⟩).isSome = true) : b < w.heap.size := by
 obtain ⟨v, hv⟩ := Option.isSome_iff_exists.1 h
 exact World.block_lt_of_cell? w _ hv

theorem Tail.quiet {g g' : Gh} {w w' : World} (q : Quiet g g' w w') {t : Nat} {v : PV} {rv : Value} (h : Tail g w t v rv) : Tail g' w' t v rv := by
 unfold Tail at *
 split at h
 ·refine ⟨h.1, fun k h1 h2 => ?_⟩
  obtain ⟨a1, a2, a3⟩ := h.2 k h1 h2
  have hb := lt_of_isSome a2
  have hs := q.same _ _ hb (by rw [a1]; trivial)
  exact ⟨hs.1.trans a1, q.some _ _ a2, (q.mark _ _ hb).trans a3⟩
 ·refine ⟨⟨h.1.1, Nat.lt_of_lt_of_le h.1.2.1 q.nxt, (q.knd _ h.1.2.1).trans h.1.2.2.1, by rw [q.loc _ h.1.2.1]; exact h.1.2.2.2⟩, fun k h1 h2 => ?_⟩
  obtain ⟨a1, a2, a3⟩ := h.2 k h1 h2
  have hb := lt_of_isSome a2
  have hs := q.same _ _ hb (by rw [a1]; trivial)
  exact ⟨hs.1.trans a1, q.some _ _ a2, (q.mark _ _ hb).trans a3⟩
 ·have hb := lt_of_heap h.2
  exact ⟨fun o => (q.same _ _ hb (by rw [h.1 o]; trivial)).1.trans (h.1 o), (q.whole _ hb).trans h.2⟩
 ·obtain ⟨h1, es, cl, h2, h3⟩ := h
  have hb := lt_of_heap h2
  exact ⟨fun o => (q.same _ _ hb (by rw [h1 o]; trivial)).1.trans (h1 o), es, cl, (q.whole _ hb).trans h2, h3⟩
 ·obtain ⟨h1, ⟨h2, h3⟩, h4, h5⟩ := h
  have hb := lt_of_heap h4
  exact ⟨fun o => (q.same _ _ hb (by rw [h1 o]; trivial)).1.trans (h1 o), ⟨Nat.lt_of_lt_of_le h2 q.nxt, (q.knd _ h2).trans h3⟩, by rw [q.loc _ h2]; exact (q.whole _ hb).trans h4, h5⟩
 ·refine ⟨⟨h.1.1, q.noMark h.1.2⟩, fun k h1 => ?_⟩
  obtain ⟨a1, a2, a3⟩ := h.2 k h1
  have hb := lt_of_isSome a2
  have hs := q.same _ _ hb (by rw [a1]; trivial)
  exact ⟨hs.1.trans a1, q.some _ _ a2, (q.mark _ _ hb).trans a3⟩
 ·trivial

theorem Top.quiet {g g' : Gh} {w w' : World} (q : Quiet g g' w w') {t : Nat} {v : PV} {rv : Value} (h : Top g w t v rv) : Top g' w' t v rv := ⟨h.rel.mono q.toFr, h.tail.quiet q⟩

theorem ObjOk.quiet {g g' : Gh} {w w' : World} (q : Quiet g g' w w') {id : Nat} {cells : List PV} (h : ObjOk g w id cells) : ObjOk g' w' id cells where
 lt := Nat.lt_of_lt_of_le h.lt q.nxt
 cell hn k v hk := by
  rw [q.loc id h.lt]
  obtain ⟨a1, a2, rv, a3, a4, a5, a6⟩ := h.cell ((q.knd id h.lt).symm.trans hn) k v hk
  have hb := World.block_lt_of_cell? w _ a3
  have hs := q.same _ _ hb (by rw [a1]; trivial)
  exact ⟨hs.1.trans a1, (q.mark _ _ hb).trans a2, rv, hs.2.trans a3, a4, a5.mono q.toFr, a6.map fun b o ⟨c1, c2, c3⟩ => by
   have hb := lt_of_isSome c2
   have hs := q.same _ _ hb (by rw [c1]; trivial)
   exact ⟨hs.1.trans c1, q.some _ _ c2, (q.mark _ _ hb).trans c3⟩⟩
 mp hn := by
  obtain ⟨cl, ks, vs, es, h1, h2, h3, h4, h5, h6⟩ := h.mp ((q.knd id h.lt).symm.trans hn)
  have hb := lt_of_heap h3
  exact ⟨cl, ks, vs, es, h1, fun o => by rw [q.loc id h.lt]; exact (q.same _ _ hb (by rw [h2 o]; trivial)).1.trans (h2 o), by rw [q.loc id h.lt]; exact (q.whole _ hb).trans h3, h4, h5, fun i e v he hv => ⟨(h6 i e v he hv).1.mono q.toFr, (h6 i e v he hv).2⟩⟩

theorem St.quiet {n : Nat} {g g' : Gh} {w w' : World} {env : Env} {S : Store} {tmps : Array Value} (q : Quiet g g' w w') (h : St n g w env S tmps) : St n g' w' env S tmps where
 size := h.size
 slots t ht := (h.slots t ht).quiet q
 beyond := h.beyond
 objs id cells hi := (h.objs id cells hi).quiet q
 new := q.new

theorem getD_set_self (a : Array Value) (d : Nat) (v x : Value) (h : d < a.size) : (a.setIfInBounds d v).getD d x = v := by simp [Array.getD, h]
theorem getD_set_ne (a : Array Value) (d t : Nat) (v x : Value) (h : t ≠ d) : (a.setIfInBounds d v).getD t x = a.getD t x := by
 simp only [Array.getD_eq_getD_getElem?, Array.getElem?_setIfInBounds_ne (Ne.symm h)]

theorem St.put {n : Nat} {g : Gh} {w : World} {env : Env} {S : Store} {tmps : Array Value} (h : St n g w env S tmps) {d : Nat} (hd : d < n) {v : PV} {rv : Value} (hv : Top g w d v rv) :
  St n g w (env.put d v) S (tmps.setIfInBounds d rv) where
 size := by simp [h.size]
 slots t ht := by
  by_cases e : t = d
  ·subst e
   rw [getD_set_self _ _ _ _ (by rw [h.size]; exact ht)]
   simpa [Env.put] using hv
  ·rw [getD_set_ne _ _ _ _ _ e]
   simpa [Env.put, e] using h.slots t ht
 beyond t ht := by
  have : t ≠ d := by omega
  simpa [Env.put, this] using h.beyond t ht
 objs := h.objs
 new := h.new

theorem St.drop {n : Nat} {g : Gh} {w : World} {env : Env} {S S' : Store} {tmps : Array Value} (h : St n g w env S tmps) (hs : ∀ id c, S' id = some c → S id = some c) : St n g w env S' tmps :=
 { h with objs := fun id c hi => h.objs id c (hs id c hi) }

theorem Rel.bare {g : Gh} {w : World} {v : PV} {rv : Value} (h : Rel g w v rv) : Rel g w v.bare rv := by
 cases h with
 | slnil f sz => exact .slnil .no sz
 | sl fv hc hl h hr hs => exact .sl fv hc hl h hr hs
 | fresh a => exact .undef _
 | undef => exact .undef _
 | bool b => exact .bool b
 | int k n => exact .int k n
 | str s => exact .str s
 | nilp => exact .nilp
 | ip f h hr => exact .ip f h hr
 | ref hn hk => exact .ref hn hk
 | agg hl h1 hr => exact .agg hl h1 hr
 | tup hl hr => exact .tup hl hr
 | fn hl hm h1 h2 => exact .fn hl hm h1 h2
 | nilf => exact .nilf
 | ifc t h => exact .ifc t h
 | nili => exact .nili
 | nils => exact .nils
 | arr0 f id off sz a cap h => exact .arr0 .no id off sz a cap h
 | arr f hn hc hk => exact .arr .no hn hc hk
 | np f hb h hr => exact .np f hb h hr
 | nq f hb h hr => exact .nq f hb h hr
 | siter b s pos => exact .undef _
 | mapo b L => exact .mapr b
 | mapr b => exact .mapr b
 | mref hn hk => exact .mref hn hk
 | nilm => exact .nilm
 | miter b id since last seen => exact .undef _
theorem Rel.refKnd {g : Gh} {w : World} {id off : Nat} {rv : Value} (h : Rel g w (.ref id off) rv) : g.knd id = false := by
 cases h with
 | ref _ hk => exact hk
theorem Tail.bare (g : Gh) (w : World) (t : Nat) (v : PV) (rv : Value) : Tail g w t v.bare rv := by
 cases v <;> simp [PV.bare, Tail]
theorem Top.bare {g : Gh} {w : World} {t u : Nat} {v : PV} {rv : Value} (h : Top g w t v rv) : Top g w u v.bare rv := ⟨h.rel.bare, Tail.bare _ _ _ _ _⟩
theorem Top.ofRel {g : Gh} {w : World} {t : Nat} {v : PV} {rv : Value} (h : Rel g w v rv) (hb : v.bare = v) : Top g w t v rv := ⟨h, by have := Tail.bare g w t v rv; rwa [hb] at this⟩
theorem RoomOk.bare (g : Gh) (w : World) (id k0 : Nat) (v : PV) (rv : Value) : RoomOk g w id k0 v.bare rv := by
 cases v <;> simp [PV.bare, RoomOk]
theorem RoomOk.ofBare {g : Gh} {w : World} {id k0 : Nat} {v : PV} {rv : Value} (hb : v.bare = v) : RoomOk g w id k0 v rv := by have := RoomOk.bare g w id k0 v rv; rwa [hb] at this
theorem ObjOk.bareCells {g : Gh} {w : World} {id : Nat} {cells : List PV} (h : ObjOk g w id cells) : ObjOk g w id (cells.map PV.bare) where
 lt := h.lt
 cell hn k v hk := by
  simp only [List.getElem?_map, Option.map_eq_some_iff] at hk
  obtain ⟨u, hu, rfl⟩ := hk
  obtain ⟨a1, a2, rv, a3, a4, a5, a6⟩ := h.cell hn k u hu
  exact ⟨a1, a2, rv, a3, a4, a5.bare, RoomOk.bare _ _ _ _ _ _⟩
 mp hn := by
  obtain ⟨cl, ks, vs, es, h1, h2⟩ := h.mp hn
  exact ⟨cl, ks, vs, es, by rw [h1]; rfl, h2⟩
/-- A zero value, as it stands in a new object: a nil slice has room for itself. -/
def PV.opn : PV → PV
 | .sl _ sz [] => .sl .tail sz []
 | v => v.bare
theorem PV.bare_bare (v : PV) : v.bare.bare = v.bare := by cases v <;> rfl
theorem Top.ofBare {g : Gh} {w : World} {t : Nat} {v : PV} {rv : Value} (h : Rel g w v rv) : Top g w t v.bare rv := ⟨h.bare, Tail.bare _ _ _ _ _⟩
end Go.VL

/- VL, part 2: what single operations answer, in plain values. -/
namespace Go.VL
open Go

inductive TK where
 | int (k : IntKind) | bool | str | ptr | slice (e : TypeId) | struct (fs : List (Nat × TypeId × Nat)) | array (n : Nat) (e : TypeId) | iface | func | other

structure TI where
 k : TK
 size : Nat
 bytes : Nat
 zero : List PV

def TK.agg : TK → Bool
 | .struct _ => true
 | .array _ _ => true
 | _ => false

def TKok (P : Program) : TK → TypeDesc → Prop
 | .int k, d => d = .int k
 | .bool, d => d = .bool
 | .str, d => d = .string
 | .ptr, d => ∃ e, d = .pointer e
 | .slice e, d => d = .slice e
 | .struct fs, d => ∃ a, d = .struct a ∧ a.toList.mapM (fun f => (P.info? f.type).map fun i => (f.offset, i.size)) = some (fs.map fun x => (x.1, x.2.2)) ∧ ∀ (j : Nat) f, a[j]? = some f → ∃ i, P.info? f.type = some i ∧ fs[j]? = some (f.offset, f.type, i.size)
 | .array n e, d => d = .array n e
 | .iface, d => ∃ m, d = .interface m
 | .func, d => ∃ a b c, d = .func a b c
 | .other, d => (∃ k e, d = .map k e) ∨ (∃ ts, d = .tuple ts)

structure TIok (P : Program) (t : TypeId) (ti : TI) : Prop where
 info : ∃ i z, P.info? t = some i ∧ i.size = ti.size ∧ i.bytes = ti.bytes ∧ i.zero = some z ∧ z.cells.size = ti.size ∧ (∀ u ∈ z.cells.toList, u.oneCell' = true) ∧ ti.zero.length = ti.size ∧
  ∀ g w (k : Nat) v u, ti.zero[k]? = some v → z.cells[k]? = some u → Rel g w v u ∧ Rel g w v.opn u ∧ (∀ id k0, RoomOk g w id k0 v.opn u) ∧ ∀ f sz, v = .sl f sz [] → u = .slice none 0 0
 und : ∃ d, P.underlying t = some d ∧ TKok P ti.k d

/-- A struct type whose values are compared field by field. -/
structure EqOk (P : Program) (t : TypeId) : Prop where
 held : P.stoodInHeld t = false
 guard : P.eqGuardType P.depth t = false
 names : ∀ f ∈ (P.fieldsOf t).toList, f.name ≠ "_"

structure Ctx where
 P : Program
 T : TypeId → Option TI
 hT : ∀ t ti, T t = some ti → TIok P t ti
 hm : P.follows .mixedOrders = true
 E : TypeId → Bool
 hE : ∀ t, E t = true → EqOk P t
 Z : TypeId → Bool
 hZ : ∀ t, Z t = true → ∃ el i, P.underlying t = some (.pointer el) ∧ P.info? el = some i ∧ i.size ≠ 0

/-- What a function's walk needs beside: how many slots; which operations move their operands; which variables are written. -/
structure Fx where
 n : Nat
 mv : Nat → Bool
 vars : Nat → Bool

theorem Ctx.isAgg (C : Ctx) {t : TypeId} {ti : TI} (h : C.T t = some ti) (w : World) : (isAgg t).run C.P w = .ok ti.k.agg w := by
 obtain ⟨d, hd, hk⟩ := (C.hT t ti h).und
 unfold Go.isAgg
 simp only [Sem.run_bind, run_underlying hd, Result.andThen_ok]
 cases hkk : ti.k <;> rw [hkk] at hk <;> simp only [TKok] at hk
 case ptr => obtain ⟨e, rfl⟩ := hk; rfl
 case struct => obtain ⟨a, rfl, _⟩ := hk; rfl
 case iface => obtain ⟨e, rfl⟩ := hk; rfl
 case func => obtain ⟨a, b, c, rfl⟩ := hk; rfl
 case other => rcases hk with ⟨a, b, rfl⟩ | ⟨a, rfl⟩ <;> rfl
 all_goals (subst hk; rfl)

theorem Ctx.sizeOf (C : Ctx) {t : TypeId} {ti : TI} (h : C.T t = some ti) (w : World) : (sizeOf t).run C.P w = .ok ti.size w := by
 obtain ⟨i, z, hi, hs, _⟩ := (C.hT t ti h).info
 simp [Go.sizeOf, typeInfo, hi, hs]

def pvc : Value → PV
 | .bool b => .bool b
 | .int k n => .int k n
 | .string s => .str s
 | .pointer none => .nilp
 | .slice none 0 0 => .sl .no 0 []
 | .nilFunc => .nilf
 | .nilIface => .nili
 | _ => .undef

theorem pvc_rel (g : Gh) (w : World) (v : Value) : Rel g w (pvc v) v := by
 unfold pvc
 split
 ·exact .bool _
 ·exact .int _ _
 ·exact .str _
 ·exact .nilp
 ·exact .slnil _ _
 ·exact .nilf
 ·exact .nili
 ·exact .undef _

def ev (x : Operand) (e : Env) : PV :=
 match x with
 | .tmp t => e t
 | .const v => pvc v
 | .global _ => .undef
 | .func f => .fn (.func f) [] []

section
variable {n : Nat} {g : Gh} {w : World} {e : Env} {S : Store} {a : Act}

theorem St.top (h : St n g w e S a.tmps) (t : Nat) : Top g w t (e t) (a.eval (.tmp t)) := by
 by_cases ht : t < n
 ·exact h.slots t ht
 ·have h1 := h.beyond t (by omega)
  have : a.eval (.tmp t) = Go.undef := by
   simp [Act.eval, Array.getD, h.size, ht]
  rw [h1, this]
  exact ⟨.undef _, by simp [Tail]⟩

theorem St.ev (h : St n g w e S a.tmps) (x : Operand) : Rel g w (ev x e) (a.eval x) := by
 cases x with
 | tmp t => exact (h.top t).rel
 | const v => exact pvc_rel g w v
 | global q => exact .undef _
 | func f => exact .fn (by simp) (by simp) (by simp) (by simp)
end

/-- What an operation answers that is done at once and leaves all that is owned as it was. -/
def Does (C : Ctx) (o : Oper) (g : Gh) (w : World) (a : Act) (v : PV) : Prop :=
 ∃ rv w' g', (execOp a.eval o).run C.P w = .ok (.value rv) w' ∧ Quiet g g' w w' ∧ Rel g' w' v rv

theorem Does.still {C : Ctx} {o : Oper} {g : Gh} {w : World} {a : Act} {v : PV} (hn : ∀ b o, w.heap.size ≤ b → g.lab b o = .free) (rv : Value) (h : (execOp a.eval o).run C.P w = .ok (.value rv) w) (hr : Rel g w v rv) : Does C o g w a v :=
 ⟨rv, w, g, h, Quiet.refl hn, hr⟩

/-! ### integers, texts, bools -/
def pbin (op : BinOp) (x y : PV) : Option PV :=
 match op, x, y with
 | .shl, .int k a, .int _ b => if b < 0 then none else some (.int k (k.wrap (a * 2 ^ min b.toNat k.bits)))
 | .shr, .int k a, .int _ b => if b < 0 then none else some (.int k (a.fdiv (2 ^ min b.toNat k.bits)))
 | .add, .int k a, .int k' b => if k = k' then some (.int k (k.wrap (a + b))) else none
 | .sub, .int k a, .int k' b => if k = k' then some (.int k (k.wrap (a - b))) else none
 | .mul, .int k a, .int k' b => if k = k' then some (.int k (k.wrap (a * b))) else none
 | .quo, .int k a, .int k' b => if k = k' ∧ b ≠ 0 then some (.int k (k.wrap (a.tdiv b))) else none
 | .rem, .int k a, .int k' b => if k = k' ∧ b ≠ 0 then some (.int k (a.tmod b)) else none
 | .and, .int k a, .int k' b => if k = k' then some (.int k (k.wrap (BitVec.ofInt k.bits a &&& BitVec.ofInt k.bits b).toNat)) else none
 | .or, .int k a, .int k' b => if k = k' then some (.int k (k.wrap (BitVec.ofInt k.bits a ||| BitVec.ofInt k.bits b).toNat)) else none
 | .xor, .int k a, .int k' b => if k = k' then some (.int k (k.wrap (BitVec.ofInt k.bits a ^^^ BitVec.ofInt k.bits b).toNat)) else none
 | .eql, .int k a, .int k' b => if k = k' then some (.bool (a == b)) else none
 | .neq, .int k a, .int k' b => if k = k' then some (.bool (a != b)) else none
 | .lss, .int k a, .int k' b => if k = k' then some (.bool (decide (a < b))) else none
 | .leq, .int k a, .int k' b => if k = k' then some (.bool (decide (a ≤ b))) else none
 | .gtr, .int k a, .int k' b => if k = k' then some (.bool (decide (a > b))) else none
 | .geq, .int k a, .int k' b => if k = k' then some (.bool (decide (a ≥ b))) else none
 | .add, .str a, .str b => if ((a.size + b.size : Nat) : Int) ≤ 9223372036854775807 then some (.str (a ++ b)) else none
 | .eql, .str a, .str b => some (.bool (a.toList == b.toList))
 | .neq, .str a, .str b => some (.bool (!(a.toList == b.toList)))
 | .lss, .str a, .str b => some (.bool (Op.bytesLess a.toList b.toList))
 | .leq, .str a, .str b => some (.bool (Op.bytesLess a.toList b.toList || a.toList == b.toList))
 | .gtr, .str a, .str b => some (.bool (!(Op.bytesLess a.toList b.toList || a.toList == b.toList)))
 | .geq, .str a, .str b => some (.bool (!(Op.bytesLess a.toList b.toList)))
 | _, _, _ => none

theorem rel_int {g : Gh} {w : World} {k : IntKind} {n : Int} {rv : Value} (h : Rel g w (.int k n) rv) : rv = .int k n := by cases h; rfl
theorem rel_str {g : Gh} {w : World} {s : ByteArray} {rv : Value} (h : Rel g w (.str s) rv) : rv = .string s := by cases h; rfl
theorem rel_bool {g : Gh} {w : World} {b : Bool} {rv : Value} (h : Rel g w (.bool b) rv) : rv = .bool b := by cases h; rfl
theorem rel_nilp {g : Gh} {w : World} {rv : Value} (h : Rel g w .nilp rv) : rv = .pointer none := by cases h; rfl

theorem eqGuard_plain {P : Program} {w : World} (op : BinOp) (t : TypeId) (x y : Operand) (a b : Value) (ha : ∀ c, a ≠ .agg c) (hb : a ≠ .nilIface) : (eqGuard op t x y a b).run P w = .ok () w := by
 unfold eqGuard
 cases op <;> simp <;> cases a <;> simp_all

theorem imax : IntKind.i64.max = 9223372036854775807 := by decide
theorem run_str_add {P : Program} {w : World} (t : TypeId) (x y : ByteArray) (h : ((x.size + y.size : Nat) : Int) ≤ 9223372036854775807) : (binOp .add t (.string x) (.string y)).run P w = .ok (.string (x ++ y)) w := by
 show (Op.stringOp .add x y).run P w = _
 unfold Op.stringOp
 dsimp only
 rw [if_neg (by rw [imax]; exact Int.not_lt.2 h)]
 rfl

theorem bin_int {P : Program} {w : World} {g : Gh} {op : BinOp} {t : TypeId} {a b : Value} {k : IntKind} {n : Int} (hr : (binOp op t a b).run P w = .ok (.int k n) w) (h1 : ∀ c, a ≠ .agg c) (h2 : a ≠ .nilIface) :
  ∃ rv, (binOp op t a b).run P w = .ok rv w ∧ Rel g w (.int k n) rv ∧ (∀ c, a ≠ .agg c) ∧ a ≠ .nilIface := ⟨_, hr, .int _ _, h1, h2⟩
theorem bin_bool {P : Program} {w : World} {g : Gh} {op : BinOp} {t : TypeId} {a b : Value} {n : Bool} (hr : (binOp op t a b).run P w = .ok (.bool n) w) (h1 : ∀ c, a ≠ .agg c) (h2 : a ≠ .nilIface) :
  ∃ rv, (binOp op t a b).run P w = .ok rv w ∧ Rel g w (.bool n) rv ∧ (∀ c, a ≠ .agg c) ∧ a ≠ .nilIface := ⟨_, hr, .bool _, h1, h2⟩

theorem pbin_run {P : Program} {w : World} {g : Gh} {op : BinOp} {x y v : PV} {a b : Value} (t : TypeId) (h : pbin op x y = some v) (hx : Rel g w x a) (hy : Rel g w y b) :
  ∃ rv, (binOp op t a b).run P w = .ok rv w ∧ Rel g w v rv ∧ (∀ c, a ≠ .agg c) ∧ a ≠ .nilIface := by
 unfold pbin at h
 split at h
 all_goals first
  | (have ha := rel_int hx; have hb := rel_int hy; subst ha; subst hb)
  | (have ha := rel_str hx; have hb := rel_str hy; subst ha; subst hb)
  | cases h
 all_goals try (split at h <;> try cases h)
 all_goals try (injection h with h; subst h)
 case h_17 hc => exact ⟨_, run_str_add t _ _ hc, .str _, by simp, by simp⟩
 all_goals try (rename_i hc)
 all_goals first | refine bin_int ?_ (by simp) (by simp) | refine bin_bool ?_ (by simp) (by simp)
 all_goals first
  | (simp [binOp, Op.shift, hc]; done)
  | (obtain ⟨rfl, hc⟩ := hc; simp [binOp, Op.intDiv, hc]; done)
  | (subst hc; simp [binOp, Op.intArith, Op.intBits, Op.intCmp]; done)
  | (simp [binOp, Op.stringOp]; done)
end Go.VL

/- VL, part 3: operations that make memory, or look into it. -/
namespace Go.VL
open Go

def Gh.mark (g : Gh) (b0 : Nat) (l : Nat → Lab) : Gh := { g with lab := fun b o => if b = b0 then l o else g.lab b o }

theorem Quiet.alloc {g : Gh} {w : World} (hn : ∀ b o, w.heap.size ≤ b → g.lab b o = .free) (o : Obj) (l : Nat → Lab) : Quiet g (g.mark w.heap.size l) w (w.alloc o) where
 os := rfl
 tape := rfl
 output := rfl
 size := by simp
 frozen b o hl := by
  have : b ≠ w.heap.size := fun e => by have := hn b o (by omega); rw [this] at hl; cases hl
  simpa [Gh.mark, this] using hl
 foreign b o hl := by
  have : b ≠ w.heap.size := fun e => by have := hn b o (by omega); rw [this] at hl; cases hl
  simpa [Gh.mark, this] using hl
 own b o hb hl := by
  have : b ≠ w.heap.size := by omega
  simpa [Gh.mark, this] using hl
 kept b o hb _ := World.cell?_alloc_lt w _ ⟨b, o, none⟩ hb
 mark b o hb := World.frozen?_alloc_old w _ ⟨b, o, none⟩ (Nat.ne_of_lt hb)
 some b o hs := by
  have hb := lt_of_isSome hs
  rw [World.cell?_alloc_lt w _ ⟨b, o, none⟩ hb]
  exact hs
 block b hb _ := RowKit.Below.heap_alloc w _ b hb
 loc _ _ := rfl
 nxt := Nat.le_refl _
 knd _ _ := rfl
 same b o hb hl := by
  have : b ≠ w.heap.size := by omega
  exact ⟨by simp [Gh.mark, this], World.cell?_alloc_lt w _ ⟨b, o, none⟩ hb⟩
 new b o hb := by
  simp at hb
  have : b ≠ w.heap.size := by omega
  simpa [Gh.mark, this] using hn b o (by omega)
 whole b hb := RowKit.Below.heap_alloc w _ b hb

theorem Quiet.drew {g : Gh} {w : World} (hn : ∀ b o, w.heap.size ≤ b → g.lab b o = .free) : Quiet g g w w.drew :=
 ⟨⟨rfl, rfl, rfl, Nat.le_refl _, fun _ _ h => h, fun _ _ h => h, fun _ _ _ h => h, fun _ _ _ _ => rfl, fun _ _ _ => rfl, fun _ _ h => h, fun _ _ _ => rfl, fun _ _ => rfl, Nat.le_refl _, fun _ _ => rfl⟩, fun _ _ _ _ => ⟨rfl, rfl⟩, hn, fun _ _ => rfl⟩

structure CR (g : Gh) (w : World) (cs : List PV) (vs : Array Value) : Prop where
 len : cs.length = vs.size
 rel : ∀ (k : Nat) v rv, cs[k]? = some v → vs[k]? = some rv → Rel g w v rv
 one : ∀ (k : Nat) rv, vs[k]? = some rv → rv.oneCell' = true

theorem CR.mono {g g' : Gh} {w w' : World} {cs : List PV} {vs : Array Value} (fr : Fr g g' w w') (h : CR g w cs vs) : CR g' w' cs vs := ⟨h.len, fun k v rv h1 h2 => (h.rel k v rv h1 h2).mono fr, h.one⟩

def pcells : PV → Option (List PV)
 | .undef => none
 | .fresh _ => none
 | .tup _ => none
 | .agg cs => some cs
 | v => some [v.bare]

theorem pcells_rel {g : Gh} {w : World} {v : PV} {rv : Value} {cs : List PV} (h : pcells v = some cs) (hr : Rel g w v rv) : CR g w cs rv.cells := by
 have one : ∀ (v : PV) (rv : Value), Rel g w v rv → rv.oneCell' = true → rv.cells = #[rv] → CR g w [v.bare] rv.cells := by
  intro v rv hr h1 h2
  rw [h2]
  refine ⟨by simp, fun k u x hu hx => ?_, fun k x hx => ?_⟩
  ·rcases k with _ | k <;> simp at hu hx
   subst hu; subst hx
   exact hr.bare
  ·rcases k with _ | k <;> simp at hx
   subst hx
   exact h1
 cases hr <;> simp only [pcells, Option.some.injEq, reduceCtorEq] at h
 case agg vs hl h1 hr' => subst h; exact ⟨hl, hr', h1⟩
 all_goals (subst h)
 case bool b => exact one _ _ (.bool b) rfl rfl
 case int k n => exact one _ _ (.int k n) rfl rfl
 case str s => exact one _ _ (.str s) rfl rfl
 case nilp => exact one _ _ .nilp rfl rfl
 case ip f h hr' => exact one _ _ (.ip f h hr') rfl rfl
 case ref h hk => exact one _ _ (.ref h hk) rfl rfl
 case nils => exact one _ _ .nils rfl rfl
 case slnil f sz => exact one _ _ (.slnil f sz) rfl rfl
 case sl fv hc hl h hr' hs => exact one _ _ (.sl fv hc hl h hr' hs) rfl rfl
 case fn hl hm h1 h2 => exact one _ _ (.fn hl hm h1 h2) rfl rfl
 case nilf => exact one _ _ .nilf rfl rfl
 case arr0 f id off sz a cap h => exact one _ _ (.arr0 f id off sz a cap h) rfl rfl
 case arr h hc hk => exact one _ _ (.arr _ h hc hk) rfl rfl
 case np f hb h hr' => exact one _ _ (.np f hb h hr') rfl rfl
 case nq f hb h hr' => exact one _ _ (.nq f hb h hr') rfl rfl
 case siter b s pos => exact one _ _ (.siter b s pos) rfl rfl
 case mapo b L => exact one _ _ (.mapo b L) rfl rfl
 case mapr b => exact one _ _ (.mapr b) rfl rfl
 case mref h hk => exact one _ _ (.mref h hk) rfl rfl
 case nilm => exact one _ _ .nilm rfl rfl
 case miter b id since last seen => exact one _ _ (.miter b id since last seen) rfl rfl
 case ifc rv0 h => exact one _ _ (.ifc _ h) rfl rfl
 case nili => exact one _ _ .nili rfl rfl

/-- A new block, whose cells never change. -/
theorem rel_alloc {g : Gh} {w : World} (hn : ∀ b o, w.heap.size ≤ b → g.lab b o = .free) {cs : List PV} {vs : Array Value} (h : CR g w cs vs) (t : TypeId) :
  Quiet g (g.mark w.heap.size fun _ => .frozen) w (w.alloc (.cells vs t)) ∧ ∀ (k : Nat) v, cs[k]? = some v → ∃ rv, vs[k]? = some rv ∧
   (g.mark w.heap.size fun _ => .frozen).lab w.heap.size k = .frozen ∧ (w.alloc (.cells vs t)).cell? ⟨w.heap.size, k, none⟩ = some rv ∧ rv.oneCell' = true ∧ Rel (g.mark w.heap.size fun _ => .frozen) (w.alloc (.cells vs t)) v rv := by
 have q := Quiet.alloc hn (.cells vs t) (fun _ => .frozen)
 refine ⟨q, fun k v hk => ?_⟩
 have hlt : k < vs.size := by rw [← h.len]; exact (List.getElem?_eq_some_iff.1 hk).1
 have he : vs[k]? = some vs[k] := Array.getElem?_eq_getElem hlt
 refine ⟨vs[k], he, by simp [Gh.mark], ?_, h.one k _ he, (h.rel k v _ hk he).mono q.toFr⟩
 rw [World.cell?_alloc_new]
 exact he

theorem rel_box {g : Gh} {w : World} (hn : ∀ b o, w.heap.size ≤ b → g.lab b o = .free) {cs : List PV} {vs : Array Value} (h : CR g w cs vs) (t : TypeId) :
  Rel (g.mark w.heap.size fun _ => .frozen) (w.alloc (.cells vs t)) (.ip cs 0) (.pointer (some ⟨w.heap.size, 0, none⟩)) := by
 obtain ⟨_, hq⟩ := rel_alloc hn h t
 refine .ip (b := w.heap.size) (o := 0) (fun k => vs.getD k Go.undef) (fun k v hk => ?_) (fun k v hk => ?_)
 ·obtain ⟨rv, h1, h2, h3, h4, h5⟩ := hq k v hk
  have : vs.getD k Go.undef = rv := by simp [Array.getD_eq_getD_getElem?, h1]
  rw [this]
  simp only [Nat.zero_add]
  exact ⟨h2, h3, h4⟩
 ·obtain ⟨rv, h1, h2, h3, h4, h5⟩ := hq k v hk
  have : vs.getD k Go.undef = rv := by simp [Array.getD_eq_getD_getElem?, h1]
  rw [this]
  exact h5

/-! ### what is put together -/
def psplice (cells : List PV) (off : Nat) (vc : List PV) : List PV := cells.take off ++ vc ++ cells.drop (off + vc.length)
def pfill (place : Nat → Option (Nat × Nat)) (cells : List PV) : List (Nat × PV) → Option (List PV)
 | [] => some cells
 | (i, v) :: rest =>
  match place i, pcells v with
  | some (off, size), some vc => if vc.length = size ∧ off + size ≤ cells.length then pfill place (psplice cells off vc) rest else none
  | _, _ => none

theorem foldl_splice (off : Nat) : ∀ (l : List Value) (j0 : Nat) (cs : Array Value),
  ((l.zipIdx j0).foldl (fun cs (p : Value × Nat) => cs.setIfInBounds (off + p.2) p.1) cs).size = cs.size ∧
  ∀ k, ((l.zipIdx j0).foldl (fun cs (p : Value × Nat) => cs.setIfInBounds (off + p.2) p.1) cs)[k]? = if off + j0 ≤ k ∧ k < off + j0 + l.length ∧ k < cs.size then l[k - (off + j0)]? else cs[k]?
 | [], j0, cs => ⟨rfl, fun k => by
   simp only [List.zipIdx_nil, List.foldl_nil, List.length_nil, Nat.add_zero]
   rw [if_neg (by omega)]⟩
 | v :: l, j0, cs => by
  have ih := foldl_splice off l (j0 + 1) (cs.setIfInBounds (off + j0) v)
  simp only [List.zipIdx_cons, List.foldl_cons, List.length_cons]
  refine ⟨by rw [ih.1]; simp, fun k => ?_⟩
  rw [ih.2 k]
  simp only [Array.size_setIfInBounds, Array.getElem?_setIfInBounds]
  by_cases h1 : off + (j0 + 1) ≤ k ∧ k < off + (j0 + 1) + l.length ∧ k < cs.size
  ·rw [if_pos h1, if_pos (by omega)]
   rw [show k - (off + j0) = (k - (off + (j0 + 1))) + 1 from by omega]
   simp
  ·rw [if_neg h1]
   by_cases h2 : off + j0 = k
   ·by_cases h3 : k < cs.size
    ·rw [if_pos h2, if_pos (by omega), if_pos (by omega), show k - (off + j0) = 0 from by omega]
     simp
    ·rw [if_pos h2, if_neg (by omega), if_neg (by omega), Array.getElem?_eq_none (by omega)]
   ·rw [if_neg h2, if_neg (by omega)]

theorem psplice_get (cells : List PV) (off : Nat) (vc : List PV) (h : off + vc.length ≤ cells.length) : (psplice cells off vc).length = cells.length ∧ ∀ k, (psplice cells off vc)[k]? = if off ≤ k ∧ k < off + vc.length then vc[k - off]? else cells[k]? := by
 unfold psplice
 refine ⟨by simp; omega, fun k => ?_⟩
 by_cases h1 : k < off
 ·rw [if_neg (by omega), List.append_assoc, List.getElem?_append_left (by simp; omega), List.getElem?_take]
  simp [h1]
 ·by_cases h2 : k < off + vc.length
  ·rw [if_pos (by omega), List.append_assoc, List.getElem?_append_right (by simp; omega), List.getElem?_append_left (by simp; omega)]
   simp [Nat.min_eq_left (show off ≤ cells.length by omega)]
  ·rw [if_neg (by omega), List.getElem?_append_right (by simp; omega)]
   simp only [List.getElem?_drop]
   congr 1
   simp
   omega

theorem CR.splice {g : Gh} {w : World} {cells vc : List PV} {vs us : Array Value} {off : Nat} (h : CR g w cells vs) (hv : CR g w vc us) (hl : off + vc.length ≤ cells.length) :
  CR g w (psplice cells off vc) (us.zipIdx.foldl (fun cs (c, j) => cs.setIfInBounds (off + j) c) vs) := by
 have e : us.zipIdx.foldl (fun cs (c, j) => cs.setIfInBounds (off + j) c) vs = (us.toList.zipIdx 0).foldl (fun cs (p : Value × Nat) => cs.setIfInBounds (off + p.2) p.1) vs := by
  rw [← Array.foldl_toList]
  simp
 rw [e]
 obtain ⟨f1, f2⟩ := foldl_splice off us.toList 0 vs
 obtain ⟨p1, p2⟩ := psplice_get cells off vc hl
 have hu : us.toList.length = vc.length := by simp [hv.len]
 refine ⟨by rw [p1, f1]; exact h.len, fun k v rv hk hrv => ?_, fun k rv hrv => ?_⟩
 ·rw [p2] at hk
  rw [f2] at hrv
  by_cases hin : off ≤ k ∧ k < off + vc.length
  ·rw [if_pos hin] at hk
   have := h.len
   rw [if_pos (by omega)] at hrv
   exact hv.rel (k - off) v rv hk (by simpa using hrv)
  ·rw [if_neg hin] at hk
   rw [if_neg (by omega)] at hrv
   exact h.rel k v rv hk hrv
 ·rw [f2] at hrv
  split at hrv
  ·exact hv.one _ _ (by simpa using hrv)
  ·exact h.one _ _ hrv

theorem fill_rel {g : Gh} {w : World} (place : Nat → Option (Nat × Nat)) : ∀ (parts : List (Nat × Value)) (pp : List (Nat × PV)) (cells : List PV) (vs : Array Value) (out : List PV), CR g w cells vs → pp.length = parts.length →
  (∀ (k : Nat) p q, pp[k]? = some p → parts[k]? = some q → p.1 = q.1 ∧ Rel g w p.2 q.2) → pfill place cells pp = some out → ∃ us, Instr.fill place vs parts = some us ∧ CR g w out us
 | [], pp, cells, vs, out, h, hl, hp, he => by
  have : pp = [] := List.eq_nil_of_length_eq_zero (by simpa using hl)
  subst this
  simp only [pfill, Option.some.injEq] at he
  subst he
  exact ⟨vs, rfl, h⟩
 | (i, v) :: rest, [], cells, vs, out, h, hl, hp, he => by simp at hl
 | (i, v) :: rest, (j, u) :: pr, cells, vs, out, h, hl, hp, he => by
  obtain ⟨h1, h2⟩ := hp 0 _ _ rfl rfl
  dsimp only at h1 h2
  subst h1
  simp only [pfill] at he
  split at he
  ·rename_i off size vc hpl hpc
   split at he
   ·rename_i hc
    have hcr := pcells_rel hpc h2
    have hsz : v.cells.size = size := by rw [← hcr.len]; exact hc.1
    have hle : off + vc.length ≤ cells.length := by rw [hc.1]; exact hc.2
    obtain ⟨us, hus, hcr'⟩ := fill_rel place rest pr _ _ out (h.splice hcr hle) (by simpa using hl) (fun k p q h3 h4 => hp (k + 1) p q (by simpa using h3) (by simpa using h4)) he
    refine ⟨us, ?_, hcr'⟩
    simp only [Instr.fill, hpl]
    rw [if_neg (by
     have := h.len
     simp only [Bool.or_eq_true, decide_eq_true_eq]
     omega)]
    exact hus
   ·cases he
  ·cases he
end Go.VL

/- VL, part 4: what an operation answers, and that it does. -/
namespace Go.VL
open Go

def nilOf (C : Ctx) (t : TypeId) : PV :=
 match C.T t with
 | some ti => (match ti.k with
  | .slice el => (match C.T el with | some te => .sl .tail te.size [] | none => .sl .no 0 [])
  | _ => .sl .no 0 [])
 | none => .sl .no 0 []

/-- An operand, as it is copied. -/
def opd (C : Ctx) (t : TypeId) (x : Operand) (e : Env) : PV :=
 match x with
 | .const (.slice none 0 0) => nilOf C t
 | .tmp s => (e s).bare
 | x => ev x e

def ploc (f : Nat → Nat) : PV → Option PV
 | .ip c o => some (.ip c (f o))
 | .ref id o => some (.ref id (f o))
 | .np c => some (.ip c (f 0))
 | .nq _ _ c => some (.ip c (f 0))
 | _ => none

def pload (ti : TI) (cells : List PV) (off : Nat) : Option PV :=
 if ti.k.agg then (if off + ti.size ≤ cells.length then some (.agg ((cells.drop off).take ti.size)) else none)
 else cells[off]?.map PV.bare

def places (fs : List (Nat × TypeId × Nat)) (i : Nat) : Option (Nat × Nat) := fs[i]?.map fun x => (x.1, x.2.2)

def ppart (ti : TI) (cells : List PV) (off : Nat) : Option PV := pload ti cells off

def chunks (sz n : Nat) (cells : List PV) : List (List PV) := (List.range n).map fun j => (cells.drop (j * sz)).take sz

def peqp (x y : PV) : Option Bool :=
 match x, y with
 | .nilp, .nilp => some true
 | .nilp, .ip _ _ => some false
 | .ip _ _, .nilp => some false
 | .nilp, .ref _ _ => some false
 | .ref _ _, .nilp => some false
 | .nilp, .np _ => some false
 | .np _, .nilp => some false
 | .nilp, .nq _ _ _ => some false
 | .nq _ _ _, .nilp => some false
 | _, _ => none

/-- Are two plain cells equal? -/
def peqc (x y : PV) : Option Bool :=
 match x, y with
 | .int _ a, .int _ b => some (a == b)
 | .str a, .str b => some (a.toList == b.toList)
 | .bool a, .bool b => some (a == b)
 | _, _ => none
def peqk : TK → PV → PV → Bool
 | .int _, .int k _, .int l _ => decide (k = l)
 | .bool, .bool _, .bool _ => true
 | .str, .str _, .str _ => true
 | _, _, _ => false
def peqA : Option TI → Option PV → Option PV → Option Bool → Option Bool
 | some ti, some x, some y, some r => if peqk ti.k x y then (peqc x y).map (· && r) else none
 | _, _, _, _ => none
def peqs (C : Ctx) : List (Nat × TypeId × Nat) → List PV → List PV → Option Bool
 | [], _, _ => some true
 | (off, ft, _) :: fs, xs, ys => peqA (C.T ft) xs[off]? ys[off]? (peqs C fs xs ys)
def peqS (C : Ctx) (t : TypeId) (fs : List (Nat × TypeId × Nat)) (x y : PV) : Option Bool :=
 match C.E t, x, y with
 | true, .agg a, .agg b => peqs C fs a b
 | _, _, _ => none

def pun (op : UnOp) (x : PV) : Option PV :=
 match op, x with
 | .not, .bool b => some (.bool !b)
 | .neg, .int k n => some (.int k (k.wrap (0 - n)))
 | .xor, .int k n => some (.int k (k.wrap (BitVec.ofInt k.bits (if k.signed then -1 else k.max) ^^^ BitVec.ofInt k.bits n).toNat))
 | _, _ => none

/-- An integer operand, or a default. -/
def bnd (x : Option PV) (d : Int) : Option Int :=
 match x with
 | none => some d
 | some (.int _ n) => some n
 | _ => none

def pslice (x : PV) (lo hi mx : Option PV) : Option PV :=
 match x with
 | .str s => (match bnd lo 0, bnd hi s.size, mx with
  | some l, some h, none => if 0 ≤ l ∧ l ≤ h ∧ h ≤ s.size then some (.str (s.extract l.toNat h.toNat)) else none
  | _, _, _ => none)
 | .sl _ sz rows => (match bnd lo 0, bnd hi rows.length with
  | some l, some h => if 0 ≤ l ∧ l ≤ h ∧ h ≤ rows.length then
    (match mx with
    | none => some (.sl .no sz ((rows.drop l.toNat).take (h.toNat - l.toNat)))
    | some (.int _ m) => if m = h ∧ hi.isSome = true then some (.sl .tail sz ((rows.drop l.toNat).take (h.toNat - l.toNat))) else none
    | _ => none) else none
  | _, _ => none)
 | _ => none

/-- A stretch of an array of one's own. -/
def parr (id off len sz : Nat) (lo hi mx : Option PV) : Option PV :=
 match bnd lo 0, bnd hi len with
  | some l, some h => if 0 ≤ l ∧ l ≤ h ∧ h ≤ len then
    (match mx with
    | none => some (.arr .no id (off + l.toNat * sz) (h.toNat - l.toNat) sz)
    | some (.int _ m) => if m = h ∧ h = l ∧ hi.isSome = true then some (.sl .tail sz []) else none
    | _ => none) else none
  | _, _ => none

def pcall (C : Ctx) (b : Builtin) (ts : Array TypeId) (xs : List PV) : Option PV :=
 match b, xs with
 | .len, [.sl _ _ rows] => (match (ts[0]?).bind C.T with | some ⟨.slice _, _, _, _⟩ => some (.int .i64 rows.length) | _ => none)
 | .len, [.arr _ _ _ len _] => (match (ts[0]?).bind C.T with | some ⟨.slice _, _, _, _⟩ => some (.int .i64 len) | _ => none)
 | .len, [.str s] => (match (ts[0]?).bind C.T with | some ⟨.str, _, _, _⟩ => some (.int .i64 s.size) | _ => none)
 | .max, [.int k a, .int _ b] => some (.int k (if b > a then b else a))
 | .min, [.int k a, .int _ b] => some (.int k (if b < a then b else a))
 | _, _ => none

/-- Rows that are bytes, as numbers. -/
def pb1 : List PV → Option Int
 | [.int .u8 n] => some n
 | _ => none
def pbs : List (List PV) → Option (List Int)
 | [] => some []
 | r :: rs => (match pb1 r, pbs rs with
  | some n, some ns => some (n :: ns)
  | _, _ => none)
def bsOf (ns : List Int) : ByteArray := ns.foldl (fun r n => r.push (UInt8.ofNat n.toNat)) ByteArray.empty

def pop (C : Ctx) (o : Oper) (e : Env) : Option PV :=
 match o.op with
 | .move x => some (opd C o.type x e)
 | .assign x => some (opd C o.type x e)
 | .pick c x y => (match ev c e with | .bool t => some (if t then (ev x e).bare else (ev y e).bare) | _ => none)
 | .nilCheck x => ploc id (ev x e)
 | .load t x => (match C.T t, ev x e with | some ti, .ip cells off => pload ti cells off | some ti, .np cells => pload ti cells 0 | _, _ => none)
 | .fieldAddr t x f => (match C.T t with
  | some ⟨.struct fs, _, _, _⟩ => (match places fs f with | some (off, sz) => if sz = 0 then none else ploc (· + off) (ev x e) | none => none)
  | _ => none)
 | .indexAddr t x i => (match C.T t with
  | some ⟨.slice el, _, _, _⟩ => (match C.T el, ev x e, ev i e with
   | some te, .sl _ sz rows, .int _ n => if te.size = sz then (if 0 ≤ n ∧ n < rows.length then some (.ip (rows.getD n.toNat []) 0) else none) else none
   | some te, .arr _ id off len sz, .int _ n => if te.size = sz then (if 0 ≤ n ∧ n < len then some (.ref id (off + n.toNat * sz)) else none) else none
   | _, _, _ => none)
  | some ⟨.array len el, _, _, _⟩ => (match C.T el, ev i e with
   | some te, .int _ n => if 0 ≤ n ∧ n < len then ploc (· + n.toNat * te.size) (ev x e) else none
   | _, _ => none)
  | _ => none)
 | .index t x i => (match C.T t, ev x e, ev i e with
  | some ⟨.str, _, _, _⟩, .str s, .int _ n => if 0 ≤ n ∧ n < s.size then some (.int .u8 ((s.data.getD n.toNat 0).toNat : Int)) else none
  | some ⟨.array len el, _, _, _⟩, .agg cs, .int _ n => if 0 ≤ n ∧ n < len then (match C.T el with | some te => ppart te cs (n.toNat * te.size) | none => none) else none
  | _, _, _ => none)
 | .field t x f => (match C.T t, ev x e with
  | some ⟨.struct fs, _, _, _⟩, .agg cs => (match fs[f]? with | some (off, ft, _) => (match C.T ft with | some tf => ppart tf cs off | none => none) | none => none)
  | _, _ => none)
 | .binOp op t x y _ => (match pbin op (ev x e) (ev y e) with
  | some v => some v
  | none => (match C.T t, op with
   | some ⟨.ptr, _, _, _⟩, .eql => (peqp (ev x e) (ev y e)).map .bool
   | some ⟨.ptr, _, _, _⟩, .neq => (peqp (ev x e) (ev y e)).map fun b => .bool !b
   | some ⟨.bool, _, _, _⟩, .eql => (match ev x e, ev y e with | .bool a, .bool b => some (.bool (a == b)) | _, _ => none)
   | some ⟨.bool, _, _, _⟩, .neq => (match ev x e, ev y e with | .bool a, .bool b => some (.bool !(a == b)) | _, _ => none)
   | some ⟨.struct fs, _, _, _⟩, .eql => (peqS C t fs (ev x e) (ev y e)).map .bool
   | some ⟨.struct fs, _, _, _⟩, .neq => (peqS C t fs (ev x e) (ev y e)).map fun b => .bool !b
   | _, _ => none))
 | .unOp op _ x => pun op (ev x e)
 | .convert s d x => (match C.T s, C.T d, ev x e with
  | some _, some ⟨.int k, _, _, _⟩, .int _ n => some (.int k (k.wrap n))
  | some ⟨.str, _, _, _⟩, some ⟨.str, _, _, _⟩, .str b => some (.str b)
  | some ⟨.slice el, _, _, _⟩, some ⟨.str, _, _, _⟩, .sl _ 1 rows => (match C.T el with | some ⟨.int .u8, _, _, _⟩ => (pbs rows).map fun ns => .str (bsOf ns) | _ => none)
  | _, _, _ => none)
 | .extract x i => (match ev x e with | .tup vs => vs[i]?.map PV.bare | _ => none)
 | .build t ps => (match C.T t with
  | some ⟨.struct fs, _, _, z⟩ => (pfill (places fs) z (ps.toList.map fun p => (p.1, ev p.2 e))).map .agg
  | some ⟨.array _ el, _, _, z⟩ => (match C.T el with
   | some te => (pfill (fun i => some (i * te.size, te.size)) z (ps.toList.map fun p => (p.1, ev p.2 e))).map .agg
   | none => none)
  | _ => none)
 | .buildSlice t n ps => (match C.T t with
  | some ⟨.slice el, _, _, _⟩ => (match C.T el with
   | some te => if n * te.size ≤ 16777216 ∧ 0 < te.size then
     (pfill (fun i => some (i * te.size, te.size)) ((List.range (n * te.size)).map fun k => te.zero.getD (k % te.size) .undef) (ps.toList.map fun p => (p.1, ev p.2 e))).map fun cells => .sl .tail te.size (chunks te.size n cells)
     else none
   | none => none)
  | _ => none)
 | .box _ x => (pcells (ev x e)).map fun cs => .ip cs 0
 | .slice t x lo hi mx => (match C.T t, ev x e with
  | some ⟨.str, _, _, _⟩, .str s => pslice (.str s) (lo.map (ev · e)) (hi.map (ev · e)) (mx.map (ev · e))
  | some ⟨.slice el, _, _, _⟩, .sl f sz rows => (match C.T el with
   | some te => if te.size = sz then pslice (.sl f sz rows) (lo.map (ev · e)) (hi.map (ev · e)) (mx.map (ev · e)) else none
   | none => none)
  | some ⟨.slice el, _, _, _⟩, .arr _ id off len sz => (match C.T el with
   | some te => if te.size = sz then parr id off len sz (lo.map (ev · e)) (hi.map (ev · e)) (mx.map (ev · e)) else none
   | none => none)
  | _, _ => none)
 | .makeFunc f xs cs => some (.fn f (xs.toList.map fun x => (ev x e).bare) (cs.toList.map fun x => (ev x e).bare))
 | .call ⟨.builtin b, xs, ts⟩ => pcall C b ts (xs.toList.map (ev · e))
 | _ => none

/-- The operation is done at once, and leaves all that is owned as it was. -/
def Doing (C : Ctx) (o : Oper) (g : Gh) (w : World) (a : Act) (v : PV) : Prop :=
 ∃ rv w' g', (execOp a.eval o).run C.P w = .ok (.value rv) w' ∧ Quiet g g' w w' ∧ ∀ d, Top g' w' d v rv

section
variable {C : Ctx} {o : Oper} {g : Gh} {w : World} {a : Act} {e : Env} {n : Nat} {S : Store} {v : PV}

theorem Doing.still (h : St n g w e S a.tmps) (rv : Value) (hr : (execOp a.eval o).run C.P w = .ok (.value rv) w) (ht : ∀ d, Top g w d v rv) : Doing C o g w a v :=
 ⟨rv, w, g, hr, Quiet.refl h.new, ht⟩
theorem Doing.bare (h : St n g w e S a.tmps) (rv : Value) (hr : (execOp a.eval o).run C.P w = .ok (.value rv) w) (ht : Rel g w v rv) (hb : v.bare = v) : Doing C o g w a v :=
 Doing.still h rv hr fun _ => .ofRel ht hb

theorem nilOf_top (C : Ctx) (t : TypeId) (d : Nat) : Top g w d (nilOf C t) (.slice none 0 0) := by
 unfold nilOf
 split
 ·split
  ·split
   ·exact ⟨.slnil _ _, by simp [Tail]⟩
   ·exact ⟨.slnil _ _, by simp [Tail]⟩
  ·exact ⟨.slnil _ _, by simp [Tail]⟩
 ·exact ⟨.slnil _ _, by simp [Tail]⟩

theorem pvc_top (v : Value) (d : Nat) : Top g w d (pvc v) v := by
 refine ⟨pvc_rel g w v, ?_⟩
 unfold pvc
 split <;> simp [Tail]

theorem opd_top (h : St n g w e S a.tmps) (t : TypeId) (x : Operand) (d : Nat) : Top g w d (opd C t x e) (a.eval x) := by
 unfold opd
 split
 ·exact nilOf_top C t d
 ·exact (h.top _).bare
 ·rename_i h1 h2
  cases x with
  | tmp s => exact absurd rfl (h2 s)
  | const v => exact pvc_top v d
  | global q => exact ⟨.undef _, by simp [ev, Tail]⟩
  | func f => exact ⟨h.ev (.func f), by simp [ev, Tail]⟩

theorem ploc_rel {f : Nat → Nat} {x v : PV} {rv : Value} (h : ploc f x = some v) (hr : Rel g w x rv) : ∃ b o', rv = .pointer (some ⟨b, o', none⟩) ∧ ∀ k, (∀ i, f i = i + k) → Rel g w v (.pointer (some ⟨b, o' + k, none⟩)) := by
 cases hr <;> simp only [ploc, Option.some.injEq, reduceCtorEq] at h
 case ip cells off b o fv h1 h2 =>
  subst h
  refine ⟨b, o + off, rfl, fun k hk => ?_⟩
  rw [hk, Nat.add_assoc]
  exact .ip fv h1 h2
 case ref id off hn hkn =>
  subst h
  refine ⟨_, _, rfl, fun k hk => ?_⟩
  rw [hk, Nat.add_assoc]
  exact .ref hn hkn
 case np cells b o fv hb h1 h2 =>
  subst h
  refine ⟨b, o, rfl, fun k hk => ?_⟩
  rw [hk]
  have := @Rel.ip g w cells (0 + k) b o fv h1 h2
  simpa using this
 case nq cells b o fv hb h1 h2 =>
  subst h
  refine ⟨b, o, rfl, fun k hk => ?_⟩
  rw [hk]
  have := @Rel.ip g w cells (0 + k) b o fv h1 h2
  simpa using this

theorem ploc_bare {f : Nat → Nat} {x v : PV} (h : ploc f x = some v) : v.bare = v := by
 unfold ploc at h
 split at h <;> cases h <;> rfl

omit C o g w a e n S v in
theorem range_map {m k : Nat} {f : Nat → Value} {rv : Value} (h : ((List.range m).map f).toArray[k]? = some rv) : k < m ∧ f k = rv := by
 simp only [List.getElem?_toArray, List.getElem?_map, Option.map_eq_some_iff] at h
 obtain ⟨i, hi, hf⟩ := h
 obtain ⟨hk, he⟩ := List.getElem?_eq_some_iff.1 hi
 simp at hk he
 subst he
 exact ⟨hk, hf⟩

theorem pload_ip {ti : TI} {t : TypeId} (ht : C.T t = some ti) {cells : List PV} {off : Nat} {rv : Value} (hl : pload ti cells off = some v) (hr : Rel g w (.ip cells off) rv) :
  ∃ ad x, rv = .pointer (some ad) ∧ (loadVar t ad).run C.P w = .ok x w ∧ Rel g w v x ∧ v.bare = v := by
 cases hr with
 | @ip _ _ b o f h1 h2 =>
  refine ⟨⟨b, o + off, none⟩, ?_⟩
  unfold pload at hl
  unfold loadVar
  split at hl
  ·rename_i hag
   split at hl
   ·rename_i hle
    cases hl
    have hrun := run_loadCells (P := C.P) w ⟨b, o + off, none⟩ ti.size (fun j => f (off + j)) (fun j hj => by
     have hk : cells[off + j]? = some cells[off + j] := List.getElem?_eq_getElem (by omega)
     have := (h1 _ _ hk).2.1
     rw [Addr.add_lit, Nat.add_assoc]
     exact this)
    refine ⟨.agg ((List.range ti.size).map fun j => f (off + j)).toArray, rfl, ?_, ?_, rfl⟩
    ·simp only [Sem.run_bind, C.isAgg ht, Result.andThen_ok, hag, if_true, C.sizeOf ht, hrun]
     rfl
    ·refine .agg (by simp; omega) (fun k rv hk => ?_) (fun k v rv hv hk => ?_)
     ·obtain ⟨hlt, rfl⟩ := range_map hk
      exact (h1 (off + k) _ (List.getElem?_eq_getElem (by omega))).2.2
     ·obtain ⟨hlt, rfl⟩ := range_map hk
      rw [List.getElem?_take, if_pos hlt, List.getElem?_drop] at hv
      exact h2 _ _ hv
   ·cases hl
  ·rename_i hag
   cases hc : cells[off]? with
   | none => rw [hc] at hl; cases hl
   | some u =>
    rw [hc] at hl
    simp only [Option.map_some, Option.some.injEq] at hl
    subst hl
    have := (h1 _ _ hc).2.1
    refine ⟨f off, rfl, ?_, (h2 _ _ hc).bare, PV.bare_bare u⟩
    have hag' : ti.k.agg = false := by simpa using hag
    simp only [Sem.run_bind, C.isAgg ht, Result.andThen_ok, hag', Bool.false_eq_true, if_false]
    simp [load, Sem.run, this]

theorem np_ip {cells : List PV} {rv : Value} (h : Rel g w (.np cells) rv) : Rel g w (.ip cells 0) rv := by
 cases h with
 | np f hb h hr => exact .ip f h hr
end
end Go.VL

/- VL, part 5: each operation does what it answers. -/
namespace Go.VL
open Go

section
variable {C : Ctx} {o : Oper} {g : Gh} {w : World} {a : Act} {e : Env} {n : Nat} {S : Store} {v : PV}

theorem struct_fields {t : TypeId} {ti : TI} {fs : List (Nat × TypeId × Nat)} (ht : C.T t = some ti) (hk : ti.k = .struct fs) : ∃ arr, C.P.underlying t = some (.struct arr) ∧
  arr.toList.mapM (fun f => (C.P.info? f.type).map fun i => (f.offset, i.size)) = some (fs.map fun x => (x.1, x.2.2)) ∧ ∀ (j : Nat) f, arr[j]? = some f → ∃ i, C.P.info? f.type = some i ∧ fs[j]? = some (f.offset, f.type, i.size) := by
 obtain ⟨d, hd, hok⟩ := (C.hT t ti ht).und
 rw [hk] at hok
 obtain ⟨arr, rfl, h1, h2⟩ := hok
 exact ⟨arr, hd, h1, h2⟩
theorem mapM_len {α β : Type} (f : α → Option β) : ∀ (l : List α) (r : List β), l.mapM f = some r → r.length = l.length
 | [], r, h => by simp at h; subst h; rfl
 | x :: l, r, h => by
  simp only [List.mapM_cons, Option.bind_eq_bind, Option.bind_eq_some_iff, Option.pure_def, Option.some.injEq] at h
  obtain ⟨y, _, z, hz, rfl⟩ := h
  simp [mapM_len f l z hz]
/-- The field of a number. -/
theorem field_at {t : TypeId} {ti : TI} {fs : List (Nat × TypeId × Nat)} (ht : C.T t = some ti) (hk : ti.k = .struct fs) {j off ft sz : Nat} (hj : fs[j]? = some (off, ft, sz)) :
  ∃ arr f, C.P.underlying t = some (.struct arr) ∧ arr[j]? = some f ∧ f.offset = off ∧ f.type = ft ∧ ∃ i, C.P.info? ft = some i ∧ i.size = sz := by
 obtain ⟨arr, h1, h2, h3⟩ := struct_fields ht hk
 have hl := mapM_len _ _ _ h2
 simp at hl
 have hlt : j < arr.size := by rw [← hl]; exact (List.getElem?_eq_some_iff.1 hj).1
 have he : arr[j]? = some arr[j] := Array.getElem?_eq_getElem hlt
 obtain ⟨i, hi, hf⟩ := h3 j _ he
 rw [hj] at hf
 injection hf with hf
 injection hf with f1 f2
 injection f2 with f2 f3
 exact ⟨arr, arr[j], h1, he, f1.symm, f2.symm, i, by rw [f2]; exact hi, f3.symm⟩
theorem und_slice {t el : TypeId} {ti : TI} (ht : C.T t = some ti) (hk : ti.k = .slice el) : C.P.underlying t = some (.slice el) := by
 obtain ⟨d, hd, hok⟩ := (C.hT t ti ht).und
 rw [hk] at hok
 cases hok; exact hd
theorem und_array {t el : TypeId} {ti : TI} {m : Nat} (ht : C.T t = some ti) (hk : ti.k = .array m el) : C.P.underlying t = some (.array m el) := by
 obtain ⟨d, hd, hok⟩ := (C.hT t ti ht).und
 rw [hk] at hok
 cases hok; exact hd
theorem und_str {t : TypeId} {ti : TI} (ht : C.T t = some ti) (hk : ti.k = .str) : C.P.underlying t = some .string := by
 obtain ⟨d, hd, hok⟩ := (C.hT t ti ht).und
 rw [hk] at hok
 cases hok; exact hd
theorem und_bool {t : TypeId} {ti : TI} (ht : C.T t = some ti) (hk : ti.k = .bool) : C.P.underlying t = some .bool := by
 obtain ⟨d, hd, hok⟩ := (C.hT t ti ht).und
 rw [hk] at hok
 cases hok; exact hd
theorem und_int {t : TypeId} {ti : TI} {k : IntKind} (ht : C.T t = some ti) (hk : ti.k = .int k) : C.P.underlying t = some (.int k) := by
 obtain ⟨d, hd, hok⟩ := (C.hT t ti ht).und
 rw [hk] at hok
 cases hok; exact hd
theorem und_ptr {t : TypeId} {ti : TI} (ht : C.T t = some ti) (hk : ti.k = .ptr) : ∃ el, C.P.underlying t = some (.pointer el) := by
 obtain ⟨d, hd, hok⟩ := (C.hT t ti ht).und
 rw [hk] at hok
 obtain ⟨el, rfl⟩ := hok
 exact ⟨el, hd⟩
theorem und_any {t : TypeId} {ti : TI} (ht : C.T t = some ti) : ∃ d, C.P.underlying t = some d := by
 obtain ⟨d, hd, _⟩ := (C.hT t ti ht).und
 exact ⟨d, hd⟩

theorem ppart_run {ti : TI} {t : TypeId} (ht : C.T t = some ti) {cells : List PV} {vs : Array Value} {off : Nat} (hc : CR g w cells vs) (hl : ppart ti cells off = some v) :
  ∃ x, (part t vs off).run C.P w = .ok x w ∧ Rel g w v x ∧ v.bare = v := by
 unfold ppart pload at hl
 unfold part
 split at hl
 ·rename_i hag
  split at hl
  ·rename_i hle
   cases hl
   refine ⟨.agg (vs.extract off (off + ti.size)), ?_, ?_, rfl⟩
   ·simp only [Sem.run_bind, C.isAgg ht, Result.andThen_ok, hag, if_true, C.sizeOf ht]
    rfl
   ·have hs : (vs.extract off (off + ti.size)).size = ti.size := by have := hc.len; simp; omega
    refine .agg (by rw [hs]; simp; omega) (fun k rv hk => ?_) (fun k v rv hv hk => ?_)
    ·rw [Array.getElem?_extract] at hk
     split at hk
     ·exact hc.one _ _ hk
     ·cases hk
    ·rw [Array.getElem?_extract] at hk
     split at hk
     ·rename_i hlt
      rw [List.getElem?_take, if_pos (by have := hc.len; omega), List.getElem?_drop] at hv
      exact hc.rel _ _ _ hv hk
     ·cases hk
  ·cases hl
 ·rename_i hag
  have hag' : ti.k.agg = false := by simpa using hag
  cases hcc : cells[off]? with
  | none => rw [hcc] at hl; cases hl
  | some u =>
   rw [hcc] at hl
   simp only [Option.map_some, Option.some.injEq] at hl
   subst hl
   have hlt : off < vs.size := by rw [← hc.len]; exact (List.getElem?_eq_some_iff.1 hcc).1
   have he : vs[off]? = some vs[off] := Array.getElem?_eq_getElem hlt
   refine ⟨vs[off], ?_, (hc.rel _ _ _ hcc he).bare, PV.bare_bare u⟩
   simp only [Sem.run_bind, C.isAgg ht, Result.andThen_ok, hag', Bool.false_eq_true, if_false, he]
   rfl

theorem agg_cr {cs : List PV} {rv : Value} (h : Rel g w (.agg cs) rv) : ∃ vs, rv = .agg vs ∧ CR g w cs vs := by
 cases h with
 | agg hl h1 hr => exact ⟨_, rfl, hl, hr, h1⟩

theorem bnd_run {x : Option PV} {y : Option Value} {d l : Int} (h : bnd x d = some l) (hr : ∀ p q, x = some p → y = some q → Rel g w p q) (hs : x.isSome = y.isSome) :
  (x = none ∧ y = none ∧ l = d) ∨ ∃ k, y = some (.int k l) := by
 unfold bnd at h
 split at h
 ·cases y with
  | none => cases h; exact .inl ⟨rfl, rfl, rfl⟩
  | some q => simp at hs
 ·cases y with
  | none => simp at hs
  | some q =>
   injection h with h
   subst h
   have := rel_int (hr _ _ rfl rfl)
   subst this
   exact .inr ⟨_, rfl⟩
 ·cases h

theorem sliceBound_ok {P : Program} {k : IntKind} {l : Int} {y : Nat} {code : BoundsCode} (h : 0 ≤ l ∧ l ≤ y) : (Instr.sliceBound (.int k l) y code).run P w = .ok l.toNat w := by
 simp [Instr.sliceBound, asIntOf, h]

theorem sl_parts {f : Fl} {sz : Nat} {rows : List (List PV)} {rv : Value} (h : Rel g w (.sl f sz rows) rv) : (rv = .slice none 0 0 ∧ rows = []) ∨ ∃ b o sp cap, rv = .slice (some ⟨b, o, sp⟩) rows.length cap ∧ rows.length ≤ cap ∧ (rows = [] ∨ sp = none) := by
 cases h with
 | slnil => exact .inl ⟨rfl, rfl⟩
 | sl fv hc hl h1 h2 hs => exact .inr ⟨_, _, _, _, rfl, hc, hs⟩
end
end Go.VL

/- VL, part 6: pop is sound. -/
namespace Go.VL
open Go

section
variable {C : Ctx} {o : Oper} {g : Gh} {w : World} {a : Act} {e : Env} {n : Nat} {S : Store} {v : PV}

theorem map_lit_rel {parts : Array (Nat × Operand)} (h : St n g w e S a.tmps) (k : Nat) (p : Nat × PV) (q : Nat × Value) (hp : (parts.toList.map fun p => (p.1, ev p.2 e))[k]? = some p)
  (hq : ((parts.map fun (i, x) => (i, a.eval x)).toList)[k]? = some q) : p.1 = q.1 ∧ Rel g w p.2 q.2 := by
 simp only [List.getElem?_map, Option.map_eq_some_iff, Array.toList_map] at hp hq
 obtain ⟨⟨i, x⟩, h1, rfl⟩ := hp
 obtain ⟨⟨j, y⟩, h2, rfl⟩ := hq
 rw [h1] at h2
 injection h2 with h2
 injection h2 with h2 h3
 subst h2; subst h3
 exact ⟨rfl, h.ev x⟩

theorem zero_cr {t : TypeId} {ti : TI} (hT : C.T t = some ti) : ∃ i z, C.P.info? t = some i ∧ i.zero = some z ∧ CR g w ti.zero z.cells := by
 obtain ⟨i, zv, hi, _, _, hz, hzs, hz1, hzl, hzr⟩ := (C.hT _ _ hT).info
 exact ⟨i, zv, hi, hz, by rw [hzl, hzs], fun k v rv h1 h2 => (hzr g w k v rv h1 h2).1, fun k rv h2 => hz1 _ (by rw [← Array.getElem?_toList] at h2; exact List.mem_of_getElem? h2)⟩

theorem zero_opn {t : TypeId} {ti : TI} (hT : C.T t = some ti) : ∃ i z, C.P.info? t = some i ∧ i.zero = some z ∧ (∀ g w, CR g w (ti.zero.map PV.opn) z.cells) ∧ ∀ (g : Gh) (w : World) (id k : Nat) v u, (ti.zero.map PV.opn)[k]? = some v → z.cells[k]? = some u → RoomOk g w id k v u := by
 obtain ⟨i, zv, hi, _, _, hz, hzs, hz1, hzl, hzr⟩ := (C.hT _ _ hT).info
 refine ⟨i, zv, hi, hz, fun g w => ⟨by simp [hzl, hzs], fun k v rv h1 h2 => ?_, fun k rv h2 => hz1 _ (by rw [← Array.getElem?_toList] at h2; exact List.mem_of_getElem? h2)⟩, fun g w id k v u h1 h2 => ?_⟩
 ·simp only [List.getElem?_map, Option.map_eq_some_iff] at h1
  obtain ⟨u, hu, rfl⟩ := h1
  exact (hzr g w k u rv hu h2).2.1
 ·simp only [List.getElem?_map, Option.map_eq_some_iff] at h1
  obtain ⟨u', hu, rfl⟩ := h1
  exact (hzr g w k u' u hu h2).2.2.1 id k

/-- A zero value in which a nil slice is just that. -/
def nilsOf (zs : List PV) : List PV := zs.map fun v => match v with | .sl _ _ [] => .nils | v => v
theorem zero_nils {t : TypeId} {ti : TI} (hT : C.T t = some ti) : ∃ i z, C.P.info? t = some i ∧ i.zero = some z ∧ CR g w (nilsOf ti.zero) z.cells := by
 obtain ⟨i, zv, hi, _, _, hz, hzs, hz1, hzl, hzr⟩ := (C.hT _ _ hT).info
 refine ⟨i, zv, hi, hz, by simp [nilsOf, hzl, hzs], fun k v rv h1 h2 => ?_, fun k rv h2 => hz1 _ (by rw [← Array.getElem?_toList] at h2; exact List.mem_of_getElem? h2)⟩
 simp only [nilsOf, List.getElem?_map, Option.map_eq_some_iff] at h1
 obtain ⟨u, hu, rfl⟩ := h1
 obtain ⟨q1, _, _, q4⟩ := hzr g w k u rv hu h2
 split
 ·rw [q4 _ _ rfl]; exact .nils
 ·exact q1

theorem pop_build {t : TypeId} {ps : Array (Nat × Operand)} (ho : o.op = .build t ps) (h : St n g w e S a.tmps) (hp : pop C o e = some v) : Doing C o g w a v := by
 unfold pop at hp
 rw [ho] at hp
 dsimp only at hp
 split at hp
 ·rename_i fs sz by_ z hT
  cases hf : pfill (places fs) z (ps.toList.map fun p => (p.1, ev p.2 e)) with
  | none => rw [hf] at hp; cases hp
  | some out =>
   rw [hf] at hp
   simp only [Option.map_some, Option.some.injEq] at hp
   subst hp
   obtain ⟨arr, hu, hm, hfs⟩ := struct_fields (C := C) hT rfl
   obtain ⟨i, zv, hi, hz, hcr⟩ := zero_cr (C := C) (g := g) (w := w) hT
   obtain ⟨us, hus, hout⟩ := fill_rel (places fs) _ _ _ _ _ hcr (by simp) (map_lit_rel h) hf
   have hb : C.P.built t (ps.map fun (i, x) => (i, a.eval x)).toList = some us := by
    unfold Program.built
    rw [hi, hu]
    simp only [hz, hm]
    rw [← hus]
    congr 1
    funext k
    simp [places]
   refine Doing.bare h (.agg us) ?_ (.agg hout.len hout.one hout.rel) rfl
   simp only [execOp, ho, Sem.run_bind, run_build w t _ _ hb, Result.andThen_ok]
   rfl
 ·rename_i m el sz by_ z hT
  split at hp
  ·rename_i te hte
   cases hf : pfill (fun i => some (i * te.size, te.size)) z (ps.toList.map fun p => (p.1, ev p.2 e)) with
   | none => rw [hf] at hp; cases hp
   | some out =>
    rw [hf] at hp
    simp only [Option.map_some, Option.some.injEq] at hp
    subst hp
    have hu := und_array (C := C) hT rfl
    obtain ⟨i, zv, hi, hz, hcr⟩ := zero_cr (C := C) (g := g) (w := w) hT
    obtain ⟨ie, ze, hie, hsz, _⟩ := (C.hT _ _ hte).info
    obtain ⟨us, hus, hout⟩ := fill_rel _ _ _ _ _ _ hcr (by simp) (map_lit_rel h) hf
    have hb : C.P.built t (ps.map fun (i, x) => (i, a.eval x)).toList = some us := by
     unfold Program.built
     rw [hi, hu]
     simp only [hz, hie, hsz]
     exact hus
    refine Doing.bare h (.agg us) ?_ (.agg hout.len hout.one hout.rel) rfl
    simp only [execOp, ho, Sem.run_bind, run_build w t _ _ hb, Result.andThen_ok]
    rfl
  ·cases hp
 ·cases hp

theorem pop_box {t : TypeId} {x : Operand} (ho : o.op = .box t x) (h : St n g w e S a.tmps) (hp : pop C o e = some v) : Doing C o g w a v := by
 unfold pop at hp
 rw [ho] at hp
 dsimp only at hp
 cases hc : pcells (ev x e) with
 | none => rw [hc] at hp; cases hp
 | some cs =>
  rw [hc] at hp
  simp only [Option.map_some, Option.some.injEq] at hp
  subst hp
  have hcr := pcells_rel hc (h.ev x)
  refine ⟨.pointer (some ⟨w.heap.size, 0, none⟩), _, _, ?_, (rel_alloc h.new hcr t).1, fun d => .ofRel (rel_box h.new hcr t) rfl⟩
  simp only [execOp, ho, Instr.box, newVar, newRow, Sem.run_bind, run_newObj_alloc, Result.andThen_ok, Sem.run_pure]

theorem chunks_get {sz m : Nat} {cells : List PV} {j : Nat} {c : List PV} (h : (chunks sz m cells)[j]? = some c) : j < m ∧ c = (cells.drop (j * sz)).take sz := by
 unfold chunks at h
 simp only [List.getElem?_map, Option.map_eq_some_iff] at h
 obtain ⟨i, hi, hf⟩ := h
 obtain ⟨hk, he⟩ := List.getElem?_eq_some_iff.1 hi
 simp at hk he
 subst he
 exact ⟨hk, hf.symm⟩

theorem rel_row {g : Gh} {w : World} (hn : ∀ b o, w.heap.size ≤ b → g.lab b o = .free) {cs : List PV} {vs : Array Value} (h : CR g w cs vs) (t : TypeId) (f : Fl) (m sz cap : Nat) (hl : m * sz ≤ cs.length) (hm : m ≤ cap) :
  Rel (g.mark w.heap.size fun _ => .frozen) (w.alloc (.cells vs t)) (.sl f sz (chunks sz m cs)) (.slice (some ⟨w.heap.size, 0, none⟩) m cap) := by
 obtain ⟨_, hq⟩ := rel_alloc hn h t
 have hlen : (chunks sz m cs).length = m := by simp [chunks]
 have key : ∀ (j : Nat) (c : List PV) (k : Nat) (v : PV), (chunks sz m cs)[j]? = some c → c[k]? = some v → cs[j * sz + k]? = some v ∧ k < sz := by
  intro j c k v hj hk
  obtain ⟨hjm, rfl⟩ := chunks_get hj
  rw [List.getElem?_take] at hk
  split at hk
  ·rw [List.getElem?_drop] at hk
   exact ⟨hk, by assumption⟩
  ·cases hk
 have := @Rel.sl (g.mark w.heap.size fun _ => .frozen) (w.alloc (.cells vs t)) f sz (chunks sz m cs) w.heap.size 0 cap none (fun j k => vs.getD (j * sz + k) Go.undef) (by omega) (fun j c hj => by
  obtain ⟨hjm, rfl⟩ := chunks_get hj
  have : (j + 1) * sz ≤ m * sz := Nat.mul_le_mul_right _ hjm
  rw [Nat.add_mul] at this
  simp
  omega) (fun j c k v hj hk => by
  obtain ⟨h1, _⟩ := key j c k v hj hk
  obtain ⟨rv, q1, q2, q3, q4, q5⟩ := hq _ _ h1
  have : vs.getD (j * sz + k) Go.undef = rv := by simp [Array.getD_eq_getD_getElem?, q1]
  rw [this]
  simp only [Nat.zero_add]
  refine ⟨by simp [Gh.mark], q3, q4⟩) (fun j c k v hj hk => by
  obtain ⟨h1, _⟩ := key j c k v hj hk
  obtain ⟨rv, q1, q2, q3, q4, q5⟩ := hq _ _ h1
  have : vs.getD (j * sz + k) Go.undef = rv := by simp [Array.getD_eq_getD_getElem?, q1]
  rw [this]
  exact q5)
 have := this (.inr rfl)
 rwa [hlen] at this

theorem mod_idx (z : Array Value) (k : Nat) (h : 0 < z.size) : z[k % z.size]! = z.getD (k % z.size) Go.undef := by
 have := Nat.mod_lt k h
 simp [Array.getD, this]

theorem pop_buildSlice {t : TypeId} {m : Nat} {ps : Array (Nat × Operand)} (ho : o.op = .buildSlice t m ps) (h : St n g w e S a.tmps) (hp : pop C o e = some v) : Doing C o g w a v := by
 unfold pop at hp
 rw [ho] at hp
 dsimp only at hp
 split at hp
 ·rename_i el _ _ _ hT
  split at hp
  ·rename_i te hte
   split at hp
   ·rename_i hc
    cases hf : pfill (fun i => some (i * te.size, te.size)) ((List.range (m * te.size)).map fun k => te.zero.getD (k % te.size) .undef) (ps.toList.map fun p => (p.1, ev p.2 e)) with
    | none => rw [hf] at hp; cases hp
    | some out =>
     rw [hf] at hp
     simp only [Option.map_some, Option.some.injEq] at hp
     subst hp
     have hu := und_slice (C := C) hT rfl
     obtain ⟨i, z, hi, hz, hcr⟩ := zero_cr (C := C) (g := g) (w := w) hte
     have hsz : z.cells.size = te.size := by
      have := hcr.len
      obtain ⟨_, _, _, _, _, _, _, _, hl, _⟩ := (C.hT _ _ hte).info
      omega
     have hcr0 : CR g w ((List.range (m * te.size)).map fun k => te.zero.getD (k % te.size) .undef) ((Array.range (m * te.size)).map (z.cells[· % z.cells.size]!)) := by
      refine ⟨by simp, fun k v rv h1 h2 => ?_, fun k rv h2 => ?_⟩
      ·simp only [List.getElem?_map, Option.map_eq_some_iff] at h1
       obtain ⟨q, hq, rfl⟩ := h1
       obtain ⟨hk, he⟩ := List.getElem?_eq_some_iff.1 hq
       simp at hk he
       subst he
       simp only [Array.getElem?_map, Option.map_eq_some_iff] at h2
       obtain ⟨q, hq2, rfl⟩ := h2
       obtain ⟨hk2, he2⟩ := Array.getElem?_eq_some_iff.1 hq2
       simp at hk2 he2
       subst he2
       rw [mod_idx _ _ (by omega)]
       have hlt : k % te.size < te.size := Nat.mod_lt _ hc.2
       rw [hsz]
       exact hcr.rel (k % te.size) _ _ (by rw [List.getD_eq_getElem?_getD, List.getElem?_eq_getElem (by have := hcr.len; omega)]; rfl) (by rw [Array.getD_eq_getD_getElem?, Array.getElem?_eq_getElem (by omega)]; rfl)
      ·simp only [Array.getElem?_map, Option.map_eq_some_iff] at h2
       obtain ⟨q, hq2, rfl⟩ := h2
       obtain ⟨hk2, he2⟩ := Array.getElem?_eq_some_iff.1 hq2
       simp at hk2 he2
       subst he2
       rw [mod_idx _ _ (by omega), hsz]
       have hlt : k % te.size < te.size := Nat.mod_lt _ hc.2
       exact hcr.one (k % te.size) _ (by rw [Array.getD_eq_getD_getElem?, Array.getElem?_eq_getElem (by omega)]; rfl)
     obtain ⟨us, hus, hout⟩ := fill_rel _ _ _ _ _ _ hcr0 (by simp) (map_lit_rel h) hf
     have hlen : out.length = m * te.size := by
      have hfl : ∀ (pp : List (Nat × PV)) (cells out : List PV), pfill (fun i => some (i * te.size, te.size)) cells pp = some out → out.length = cells.length := by
       intro pp
       induction pp with
       | nil => intro cells out h; simp only [pfill, Option.some.injEq] at h; rw [h]
       | cons p pp ih =>
        intro cells out h
        obtain ⟨i, u⟩ := p
        simp only [pfill] at h
        split at h
        ·rename_i off size vc h1 h2
         split at h
         ·rename_i h3
          rw [ih _ _ h, (psplice_get _ _ _ (by rw [h3.1]; exact h3.2)).1]
         ·cases h
        ·cases h
      rw [hfl _ _ _ hf]
      simp
     refine ⟨.slice (some ⟨w.heap.size, 0, none⟩) m m, _, _, ?_, (rel_alloc h.new hout el).1, fun d => ⟨rel_row h.new hout el .tail m te.size m (by omega) (Nat.le_refl _), .inr rfl, fun k k1 k2 => by
      have : (chunks te.size m out).length = m := by simp [chunks]
      rw [this] at k1
      omega⟩⟩
     have hns : ¬ (m * te.size > 2 ^ 24) := by omega
     simp only [execOp, ho, Instr.buildSlice, Sem.run_bind, run_underlying hu, Result.andThen_ok, C.sizeOf hte, if_neg hns]
     by_cases h0 : m * te.size = 0
     ·rw [if_pos h0]
      have hr0 : Array.range (m * te.size) = #[] := by rw [h0]; rfl
      have hus' : Instr.fill (fun i => some (i * te.size, te.size)) ((Array.range (m * te.size)).map (fun x => (#[] : Array Value)[x % (#[] : Array Value).size]!)) (ps.map fun (i, x) => (i, a.eval x)).toList = some us := by
       rw [hr0, Array.map_empty] at hus ⊢
       exact hus
      simp only [Sem.run_pure, Result.andThen_ok, Sem.run_bind, hus', newRow, run_newObj_alloc]
     ·rw [if_neg h0]
      simp only [Sem.run_pure, Result.andThen_ok, Sem.run_bind, zeroValue, typeInfo, program, Sem.run, hi, hz, hus, newRow, run_newObj_alloc]
   ·cases hp
  ·cases hp
 ·cases hp
end
end Go.VL

/- VL, part 7: pop is sound, the other operations. -/
namespace Go.VL
open Go

section
variable {C : Ctx} {o : Oper} {g : Gh} {w : World} {a : Act} {e : Env} {n : Nat} {S : Store} {v : PV}

theorem pop_move {x : Operand} (ho : o.op = .move x ∨ o.op = .assign x) (h : St n g w e S a.tmps) (hp : pop C o e = some v) : Doing C o g w a v := by
 have hv : opd C o.type x e = v := by
  unfold pop at hp
  rcases ho with ho | ho <;> (rw [ho] at hp; exact Option.some.inj hp)
 subst hv
 refine Doing.still h (a.eval x) ?_ fun d => opd_top h _ _ d
 rcases ho with ho | ho <;> (simp only [execOp, ho]; rfl)

theorem pop_pick {c x y : Operand} (ho : o.op = .pick c x y) (h : St n g w e S a.tmps) (hp : pop C o e = some v) : Doing C o g w a v := by
 unfold pop at hp
 rw [ho] at hp
 dsimp only at hp
 split at hp
 ·rename_i t ht
  injection hp with hp
  have hc := h.ev c
  rw [ht] at hc
  have hc := rel_bool hc
  refine Doing.still h (if t then a.eval x else a.eval y) ?_ fun d => ?_
  ·simp only [execOp, ho, hc, asBool, Sem.run_bind, Sem.run_pure, Result.andThen_ok]
  ·subst hp
   cases t
   ·exact .ofBare (h.ev y)
   ·exact .ofBare (h.ev x)
 ·cases hp

theorem pop_nilCheck {x : Operand} (ho : o.op = .nilCheck x) (h : St n g w e S a.tmps) (hp : pop C o e = some v) : Doing C o g w a v := by
 unfold pop at hp
 rw [ho] at hp
 dsimp only at hp
 obtain ⟨b, o', hr, hk⟩ := ploc_rel hp (h.ev x)
 have := hk 0 (fun _ => rfl)
 refine Doing.bare h _ ?_ this (ploc_bare hp)
 simp only [execOp, ho, hr, Sem.run_pure, Nat.add_zero]

theorem pop_load {t : TypeId} {x : Operand} (ho : o.op = .load t x) (h : St n g w e S a.tmps) (hp : pop C o e = some v) : Doing C o g w a v := by
 unfold pop at hp
 rw [ho] at hp
 dsimp only at hp
 split at hp
 ·rename_i ti cells off hT hx
  have hr := h.ev x
  rw [hx] at hr
  obtain ⟨ad, y, h1, h2, h3, h4⟩ := pload_ip hT hp hr
  refine Doing.bare h y ?_ h3 h4
  simp only [execOp, ho, h1, Instr.loadAt, Instr.sureAddr, Sem.run_bind, Sem.run_pure, Result.andThen_ok, h2]
 ·rename_i ti cells hT hx
  have hr := h.ev x
  rw [hx] at hr
  obtain ⟨ad, y, h1, h2, h3, h4⟩ := pload_ip hT hp (np_ip hr)
  refine Doing.bare h y ?_ h3 h4
  simp only [execOp, ho, h1, Instr.loadAt, Instr.sureAddr, Sem.run_bind, Sem.run_pure, Result.andThen_ok, h2]
 ·cases hp

theorem pop_fieldAddr {t : TypeId} {x : Operand} {f : Nat} (ho : o.op = .fieldAddr t x f) (h : St n g w e S a.tmps) (hp : pop C o e = some v) : Doing C o g w a v := by
 unfold pop at hp
 rw [ho] at hp
 dsimp only at hp
 split at hp
 ·rename_i fs _ _ _ hT
  split at hp
  ·rename_i off sz hpl
   split at hp
   ·cases hp
   ·rename_i hsz
    obtain ⟨b, o', hr, hk⟩ := ploc_rel hp (h.ev x)
    have hk := hk off (fun _ => rfl)
    unfold places at hpl
    cases hf : fs[f]? with
    | none => rw [hf] at hpl; cases hpl
    | some q =>
     obtain ⟨q1, q2, q3⟩ := q
     rw [hf] at hpl
     simp only [Option.map_some, Option.some.injEq, Prod.mk.injEq] at hpl
     obtain ⟨rfl, rfl⟩ := hpl
     obtain ⟨arr, fl, hu, ha, h1, h2, i, hi, h3⟩ := field_at (C := C) hT rfl hf
     refine Doing.bare h _ ?_ hk (ploc_bare hp)
     have hne : ¬ (i.size = 0) := by rw [h3]; exact hsz
     simp only [execOp, ho, hr, Instr.fieldAt, Instr.sureAddr, fieldPlace, Sem.run_bind, Sem.run_pure, Result.andThen_ok, run_underlying hu, ha, sizeOf, typeInfo, program, Sem.run, h2, hi, if_neg hne, h1, Addr.add_lit]
  ·cases hp
 ·cases hp

theorem pop_indexAddr {t : TypeId} {x i : Operand} (ho : o.op = .indexAddr t x i) (h : St n g w e S a.tmps) (hp : pop C o e = some v) : Doing C o g w a v := by
 unfold pop at hp
 rw [ho] at hp
 dsimp only at hp
 split at hp
 ·rename_i el _ _ _ hT
  have hu := und_slice (C := C) hT rfl
  split at hp
  ·rename_i te f sz rows k m hte hx hi
   split at hp
   ·rename_i hsz
    split at hp
    ·rename_i hin
     injection hp with hp
     subst hp
     have hrx := h.ev x
     rw [hx] at hrx
     have hri := h.ev i
     rw [hi] at hri
     have hri := rel_int hri
     rcases sl_parts hrx with ⟨_, hrows⟩ | ⟨b, o', sp, cap, hv, hcap, hsp⟩
     ·subst hrows; simp at hin; omega
     ·have hlt : m.toNat < rows.length := by omega
      have hrow : rows[m.toNat]? = some (rows.getD m.toNat []) := by rw [List.getD_eq_getElem?_getD, List.getElem?_eq_getElem hlt]; rfl
      have hsp : sp = none := by
       rcases hsp with e | e
       ·rw [e] at hlt; simp at hlt
       ·exact e
      subst hsp
      rw [hv] at hrx
      refine Doing.bare h (.pointer (some ⟨b, o' + m.toNat * te.size, none⟩)) ?_ ?_ rfl
      ·simp only [execOp, ho, hri, hv, Instr.indexAt, asIntOf, Sem.run_bind, Sem.run_pure, Result.andThen_ok, run_underlying hu, if_pos hin, C.sizeOf hte, Addr.add_lit]
      ·cases hrx with
       | sl fv hc hl h1 h2 =>
        rw [hsz]
        have := @Rel.ip g w (rows.getD m.toNat []) 0 b (o' + m.toNat * sz) (fun k => fv m.toNat k) (fun k v hk => by
         rw [Nat.add_assoc]
         exact h1 _ _ k v hrow hk) (fun k v hk => h2 _ _ k v hrow hk)
        simpa using this
    ·cases hp
   ·cases hp
  ·rename_i te f id off len sz k m hte hx hi
   split at hp
   ·rename_i hsz
    split at hp
    ·rename_i hin
     injection hp with hp
     subst hp
     have hrx := h.ev x
     rw [hx] at hrx
     have hri := h.ev i
     rw [hi] at hri
     have hri := rel_int hri
     generalize hq : a.eval x = q at hrx
     cases hrx with
     | arr0 => omega
     | @arr _ _ _ _ _ cap hid hcap hkn =>
      refine Doing.bare h (.pointer (some ⟨(g.loc id).1, (g.loc id).2 + off + m.toNat * te.size, none⟩)) ?_ ?_ rfl
      ·simp only [execOp, ho, hri, hq, Instr.indexAt, asIntOf, Sem.run_bind, Sem.run_pure, Result.andThen_ok, run_underlying hu, if_pos hin, C.sizeOf hte, Addr.add_lit]
      ·rw [hsz, Nat.add_assoc]
       exact .ref hid hkn
    ·cases hp
   ·cases hp
  ·cases hp
 ·rename_i len el _ _ _ hT
  have hu := und_array (C := C) hT rfl
  split at hp
  ·rename_i te k m hte hi
   split at hp
   ·rename_i hin
    obtain ⟨b, o', hr, hk⟩ := ploc_rel hp (h.ev x)
    have hk := hk (m.toNat * te.size) (fun _ => rfl)
    have hri := h.ev i
    rw [hi] at hri
    have hri := rel_int hri
    refine Doing.bare h _ ?_ hk (ploc_bare hp)
    simp only [execOp, ho, hri, hr, Instr.indexAt, asIntOf, Instr.sureAddr, Sem.run_bind, Sem.run_pure, Result.andThen_ok, run_underlying hu, if_pos hin, C.sizeOf hte, Addr.add_lit]
   ·cases hp
  ·cases hp
 ·cases hp

theorem pop_index {t : TypeId} {x i : Operand} (ho : o.op = .index t x i) (h : St n g w e S a.tmps) (hp : pop C o e = some v) : Doing C o g w a v := by
 unfold pop at hp
 rw [ho] at hp
 dsimp only at hp
 split at hp
 ·rename_i s k m hT hx hi
  have hu := und_str (C := C) hT rfl
  split at hp
  ·rename_i hin
   injection hp with hp
   subst hp
   have hrx := h.ev x
   rw [hx] at hrx
   have hrx := rel_str hrx
   have hri := h.ev i
   rw [hi] at hri
   have hri := rel_int hri
   refine Doing.bare h _ ?_ (.int _ _) rfl
   have hlt : m.toNat < s.size := by omega
   have hs : s[m.toNat]? = some s[m.toNat] := getElem?_pos s m.toNat hlt
   simp only [execOp, ho, hri, hrx, Instr.index, asIntOf, Sem.run_bind, Sem.run_pure, Result.andThen_ok, run_underlying hu, if_pos hin.1, hs]
   have : s[m.toNat] = s.data.getD m.toNat 0 := by
    show s.data[m.toNat] = _
    rw [Array.getD_eq_getD_getElem?, Array.getElem?_eq_getElem (by exact hlt)]
    rfl
   rw [this]
  ·cases hp
 ·rename_i len el _ _ _ cs k m hT hx hi
  have hu := und_array (C := C) hT rfl
  split at hp
  ·rename_i hin
   split at hp
   ·rename_i te hte
    have hrx := h.ev x
    rw [hx] at hrx
    obtain ⟨vs, hvs, hcr⟩ := agg_cr hrx
    have hri := h.ev i
    rw [hi] at hri
    have hri := rel_int hri
    obtain ⟨y, h1, h2, h3⟩ := ppart_run hte hcr hp
    refine Doing.bare h y ?_ h2 h3
    simp only [execOp, ho, hri, hvs, Instr.index, asIntOf, Sem.run_bind, Sem.run_pure, Result.andThen_ok, run_underlying hu, if_pos hin, C.sizeOf hte, h1]
   ·cases hp
  ·cases hp
 ·cases hp

theorem pop_field {t : TypeId} {x : Operand} {f : Nat} (ho : o.op = .field t x f) (h : St n g w e S a.tmps) (hp : pop C o e = some v) : Doing C o g w a v := by
 unfold pop at hp
 rw [ho] at hp
 dsimp only at hp
 split at hp
 ·rename_i fs _ _ _ cs hT hx
  split at hp
  ·rename_i off ft _ hf
   split at hp
   ·rename_i tf htf
    obtain ⟨arr, fl, hu, ha, h1, h2, i, hi, h3⟩ := field_at (C := C) hT rfl hf
    have hrx := h.ev x
    rw [hx] at hrx
    obtain ⟨vs, hvs, hcr⟩ := agg_cr hrx
    obtain ⟨y, r1, r2, r3⟩ := ppart_run htf hcr hp
    refine Doing.bare h y ?_ r2 r3
    simp only [execOp, ho, hvs, Instr.field, asAgg, Sem.run_bind, Sem.run_pure, Result.andThen_ok, run_underlying hu, ha, h1, h2, r1]
   ·cases hp
  ·cases hp
 ·cases hp

omit C o g w a e n S v in
theorem equal_succ (t : TypeId) (x y : Value) : Op.equal t x y = Op.equalIn (9999 + 1) t x y := rfl

theorem equal_bool {t : TypeId} (hu : C.P.underlying t = some .bool) (p q : Bool) : (Op.equal t (.bool p) (.bool q)).run C.P w = .ok (p == q) w := by
 rw [equal_succ, Op.equalIn]
 simp only [Sem.run_bind, run_underlying hu, Result.andThen_ok, Sem.run_pure]

theorem equal_ptr {t : TypeId} {ti : TI} (hT : C.T t = some ti) (hk : ti.k = .ptr) {x y : PV} {b : Bool} (h : peqp x y = some b) {rx ry : Value} (hx : Rel g w x rx) (hy : Rel g w y ry) :
  (Op.equal t rx ry).run C.P w = .ok b w ∧ ∃ p, rx = .pointer p ∧ ∃ q, ry = .pointer q := by
 obtain ⟨el, hu⟩ := und_ptr hT hk
 unfold peqp at h
 split at h
 all_goals try cases h
 all_goals first
  | (have hx := rel_nilp hx; have hy := rel_nilp hy; subst hx; subst hy)
  | (have hx := rel_nilp hx; subst hx; cases hy)
  | (have hy := rel_nilp hy; subst hy; cases hx)
 all_goals refine ⟨?_, _, rfl, _, rfl⟩
 all_goals
  rw [equal_succ, Op.equalIn]
  simp only [Sem.run_bind, run_underlying hu, Result.andThen_ok, Sem.run_pure, Option.isNone_none, Option.isNone_some]

omit o a e n S v in
theorem peqc_run {t : TypeId} {ti : TI} (hT : C.T t = some ti) {x y : PV} {b : Bool} (hk : peqk ti.k x y = true) (h : peqc x y = some b) {rx ry : Value} (hx : Rel g w x rx) (hy : Rel g w y ry) (d : Nat) :
  (Op.equalIn (d + 1) t rx ry).run C.P w = .ok b w := by
 cases x <;> cases y <;> simp only [peqc, Option.some.injEq, reduceCtorEq] at h
 ·have := rel_bool hx; have := rel_bool hy
  subst_vars
  cases hkk : ti.k <;> rw [hkk] at hk <;> simp only [peqk, Bool.false_eq_true] at hk
  exact run_equalIn_bool w d t _ _ (und_bool hT hkk)
 ·have := rel_int hx; have := rel_int hy
  subst_vars
  cases hkk : ti.k <;> rw [hkk] at hk <;> simp only [peqk, Bool.false_eq_true, decide_eq_true_eq] at hk
  subst hk
  exact run_equalIn_int w d t _ _ _ _ (und_int hT hkk)
 ·have := rel_str hx; have := rel_str hy
  subst_vars
  cases hkk : ti.k <;> rw [hkk] at hk <;> simp only [peqk, Bool.false_eq_true] at hk
  exact run_equalIn_string w d t _ _ (und_str hT hkk)

omit o a e n S v in
theorem peqk_agg {ti : TI} {x y : PV} (h : peqk ti.k x y = true) : ti.k.agg = false ∧ x.bare = x ∧ y.bare = y := by
 cases hk : ti.k <;> rw [hk] at h <;> cases x <;> cases y <;> first | exact ⟨rfl, rfl, rfl⟩ | simp [peqk] at h

omit o a e n S v in
theorem peqs_run {xs ys : List PV} {vs us : Array Value} (hx : CR g w xs vs) (hy : CR g w ys us) (d : Nat) : ∀ (fs : List Field) (tf : List (Nat × TypeId × Nat)) (b : Bool),
  fs.length = tf.length → (∀ (j : Nat) f, fs[j]? = some f → ∃ sz, tf[j]? = some (f.offset, f.type, sz)) → (∀ f ∈ fs, f.name ≠ "_") → peqs C tf xs ys = some b → (Op.eqFields (d + 1) vs us fs).run C.P w = .ok b w
 | [], tf, b, hl, _, _, h => by
  have : tf = [] := List.eq_nil_of_length_eq_zero (by simpa using hl.symm)
  subst this
  simp only [peqs, Option.some.injEq] at h
  subst h
  rfl
 | f :: fs, [], b, hl, _, _, h => by simp at hl
 | f :: fs, (off, ft, sz) :: tf, b, hl, hf, hn, h => by
  obtain ⟨sz', h0⟩ := hf 0 f rfl
  simp only [List.getElem?_cons_zero, Option.some.injEq, Prod.mk.injEq] at h0
  obtain ⟨rfl, rfl, rfl⟩ := h0
  simp only [peqs] at h
  unfold peqA at h
  split at h
  ·rename_i ti x y r hT hxo hyo hr
   split at h
   ·rename_i hk
    obtain ⟨hag, hbx, hby⟩ := peqk_agg hk
    cases hc : peqc x y with
    | none => rw [hc] at h; cases h
    | some c =>
     rw [hc] at h
     simp only [Option.map_some, Option.some.injEq] at h
     subst h
     obtain ⟨rx, p1, p2, _⟩ := ppart_run (v := x) hT hx (off := f.offset) (by unfold ppart pload; rw [hag]; simp [hxo, hbx])
     obtain ⟨ry, q1, q2, _⟩ := ppart_run (v := y) hT hy (off := f.offset) (by unfold ppart pload; rw [hag]; simp [hyo, hby])
     have he := peqc_run hT hk hc p2 q2 d
     have ih := peqs_run hx hy d fs tf r (by simpa using hl) (fun j f' hj => hf (j + 1) f' hj) (fun f' hf' => hn f' (List.mem_cons_of_mem _ hf')) hr
     unfold Op.eqFields
     rw [if_pos (hn f (List.mem_cons_self ..))]
     simp only [Sem.run_bind, p1, q1, he, Result.andThen_ok]
     cases c
     ·rfl
     ·simp only [Bool.not_true, Bool.false_eq_true, if_false, ih, Bool.true_and]
   ·cases h
  ·cases h

theorem peqS_run {t : TypeId} {ti : TI} {fs : List (Nat × TypeId × Nat)} (hT : C.T t = some ti) (hk : ti.k = .struct fs) {x y : PV} {b : Bool} (h : peqS C t fs x y = some b) {rx ry : Value} (hx : Rel g w x rx) (hy : Rel g w y ry) :
  ∃ vs us, rx = .agg vs ∧ ry = .agg us ∧ (∀ op p q, (eqGuard op t p q (.agg vs) (.agg us)).run C.P w = .ok () w) ∧ (Op.equalIn 10000 t (.agg vs) (.agg us)).run C.P w = .ok b w := by
 unfold peqS at h
 split at h
 ·rename_i xs ys hE
  obtain ⟨vs, rfl, hvs⟩ := agg_cr hx
  obtain ⟨us, rfl, hus⟩ := agg_cr hy
  obtain ⟨e1, e2, e3⟩ := C.hE t hE
  obtain ⟨arr, hu, h2, h3⟩ := struct_fields hT hk
  have hfo : C.P.fieldsOf t = arr := by unfold Program.fieldsOf; rw [hu]
  have hl := mapM_len _ _ _ h2
  refine ⟨vs, us, rfl, rfl, fun op p q => run_eqGuard_agg w op t p q vs us e2, ?_⟩
  rw [show (10000 : Nat) = 9999 + 1 from rfl, run_equalIn_struct w 9999 t vs us (by rw [hfo]; exact hu) e1]
  refine peqs_run hvs hus 9998 _ _ b (by rw [hfo]; simpa using hl.symm) (fun j f hj => ?_) e3 h
  rw [hfo] at hj
  obtain ⟨i, hi, hf⟩ := h3 j f (by rwa [Array.getElem?_toList] at hj)
  exact ⟨_, hf⟩
 ·cases h

theorem pop_binOp {op : BinOp} {t ty : TypeId} {x y : Operand} (ho : o.op = .binOp op t x y ty) (h : St n g w e S a.tmps) (hp : pop C o e = some v) : Doing C o g w a v := by
 unfold pop at hp
 rw [ho] at hp
 dsimp only at hp
 split at hp
 ·rename_i u hb
  injection hp with hp
  subst hp
  obtain ⟨rv, h1, h2, h3, h4⟩ := pbin_run (P := C.P) t hb (h.ev x) (h.ev y)
  have hbare : u.bare = u := by
   unfold pbin at hb
   split at hb
   all_goals try cases hb
   all_goals try (split at hb <;> cases hb)
   all_goals rfl
  refine Doing.bare h rv ?_ h2 hbare
  simp only [execOp, ho, Sem.run_bind, eqGuard_plain op t x y _ _ h3 h4, Result.andThen_ok, h1, Sem.run_pure]
 ·split at hp
  ·rename_i _ _ _ hT _
   cases hb : peqp (ev x e) (ev y e) with
   | none => rw [hb] at hp; cases hp
   | some b =>
    rw [hb] at hp
    simp only [Option.map_some, Option.some.injEq] at hp
    subst hp
    obtain ⟨h1, p, hp1, q, hq1⟩ := equal_ptr hT rfl hb (h.ev x) (h.ev y)
    refine Doing.bare h (.bool b) ?_ (.bool _) rfl
    rw [hp1, hq1] at h1
    simp only [execOp, ho, hp1, hq1, Sem.run_bind, eqGuard_plain .eql t x y (.pointer p) (.pointer q) (by simp) (by simp), Result.andThen_ok, Sem.run_pure]
    simp only [binOp, Sem.run_bind, h1, Result.andThen_ok, Sem.run_pure]
  ·rename_i _ _ _ hT _
   cases hb : peqp (ev x e) (ev y e) with
   | none => rw [hb] at hp; cases hp
   | some b =>
    rw [hb] at hp
    simp only [Option.map_some, Option.some.injEq] at hp
    subst hp
    obtain ⟨h1, p, hp1, q, hq1⟩ := equal_ptr hT rfl hb (h.ev x) (h.ev y)
    refine Doing.bare h (.bool !b) ?_ (.bool _) rfl
    rw [hp1, hq1] at h1
    simp only [execOp, ho, hp1, hq1, Sem.run_bind, eqGuard_plain .neq t x y (.pointer p) (.pointer q) (by simp) (by simp), Result.andThen_ok, Sem.run_pure]
    simp only [binOp, Sem.run_bind, h1, Result.andThen_ok, Sem.run_pure]
  ·rename_i _ _ _ hT _
   have hu := und_bool (C := C) hT rfl
   split at hp
   ·rename_i p q h1 h2
    injection hp with hp
    subst hp
    have hx := h.ev x
    rw [h1] at hx
    have hx := rel_bool hx
    have hy := h.ev y
    rw [h2] at hy
    have hy := rel_bool hy
    refine Doing.bare h _ ?_ (.bool _) rfl
    simp only [execOp, ho, hx, hy, Sem.run_bind, eqGuard_plain .eql t x y (.bool p) (.bool q) (by simp) (by simp), Result.andThen_ok, Sem.run_pure]
    simp only [binOp, Sem.run_bind, equal_bool hu, Result.andThen_ok, Sem.run_pure]
   ·cases hp
  ·rename_i _ _ _ hT _
   have hu := und_bool (C := C) hT rfl
   split at hp
   ·rename_i p q h1 h2
    injection hp with hp
    subst hp
    have hx := h.ev x
    rw [h1] at hx
    have hx := rel_bool hx
    have hy := h.ev y
    rw [h2] at hy
    have hy := rel_bool hy
    refine Doing.bare h _ ?_ (.bool _) rfl
    simp only [execOp, ho, hx, hy, Sem.run_bind, eqGuard_plain .neq t x y (.bool p) (.bool q) (by simp) (by simp), Result.andThen_ok, Sem.run_pure]
    simp only [binOp, Sem.run_bind, equal_bool hu, Result.andThen_ok, Sem.run_pure]
   ·cases hp
  ·rename_i fs _ _ _ hT _
   cases hb : peqS C t fs (ev x e) (ev y e) with
   | none => rw [hb] at hp; cases hp
   | some b =>
    rw [hb] at hp
    simp only [Option.map_some, Option.some.injEq] at hp
    subst hp
    obtain ⟨vs, us, h1, h2, h3, h4⟩ := peqS_run hT rfl hb (h.ev x) (h.ev y)
    refine Doing.bare h (.bool b) ?_ (.bool _) rfl
    simp only [execOp, ho, h1, h2, Sem.run_bind, h3, Result.andThen_ok, run_eql_struct, h4, Sem.run_pure]
  ·rename_i fs _ _ _ hT _
   cases hb : peqS C t fs (ev x e) (ev y e) with
   | none => rw [hb] at hp; cases hp
   | some b =>
    rw [hb] at hp
    simp only [Option.map_some, Option.some.injEq] at hp
    subst hp
    obtain ⟨vs, us, h1, h2, h3, h4⟩ := peqS_run hT rfl hb (h.ev x) (h.ev y)
    refine Doing.bare h (.bool !b) ?_ (.bool _) rfl
    simp only [execOp, ho, h1, h2, Sem.run_bind, h3, Result.andThen_ok, run_neq_struct, h4, Sem.run_pure]
  ·cases hp

theorem pop_unOp {op : UnOp} {t : TypeId} {x : Operand} (ho : o.op = .unOp op t x) (h : St n g w e S a.tmps) (hp : pop C o e = some v) : Doing C o g w a v := by
 unfold pop at hp
 rw [ho] at hp
 dsimp only at hp
 unfold pun at hp
 have hx := h.ev x
 split at hp
 ·rename_i b hb
  rw [hb] at hx
  have hx := rel_bool hx
  injection hp with hp
  subst hp
  refine Doing.bare h _ ?_ (.bool _) rfl
  simp [execOp, ho, hx, Op.unary]
 ·rename_i k m hb
  rw [hb] at hx
  have hx := rel_int hx
  injection hp with hp
  subst hp
  refine Doing.bare h _ ?_ (.int _ _) rfl
  simp [execOp, ho, hx, Op.unary, Op.intArith]
 ·rename_i k m hb
  rw [hb] at hx
  have hx := rel_int hx
  injection hp with hp
  subst hp
  refine Doing.bare h _ ?_ (.int _ _) rfl
  simp [execOp, ho, hx, Op.unary, Op.intBits]
 ·cases hp

theorem pb1_get {r : List PV} {n : Int} (h : pb1 r = some n) : r = [.int .u8 n] := by
 unfold pb1 at h
 split at h
 ·injection h with h
  rw [h]
 ·cases h
theorem pbs_get : ∀ (rows : List (List PV)) (ns : List Int), pbs rows = some ns → ns.length = rows.length ∧ ∀ (j : Nat) n, ns[j]? = some n → rows[j]? = some [.int .u8 n]
 | [], ns, h => by
  simp only [pbs, Option.some.injEq] at h
  subst h
  exact ⟨rfl, by simp⟩
 | r :: rs, ns, h => by
  simp only [pbs] at h
  cases h1 : pb1 r with
  | none => rw [h1] at h; cases h
  | some n =>
   rw [h1] at h
   cases hr : pbs rs with
   | none => rw [hr] at h; cases h
   | some ms =>
    rw [hr] at h
    simp only [Option.some.injEq] at h
    subst h
    obtain ⟨h3, h2⟩ := pbs_get rs ms hr
    refine ⟨by simp [h3], fun j m hj => ?_⟩
    rcases j with _ | j
    ·simp at hj; subst hj; rw [pb1_get h1]; rfl
    ·simpa using h2 j m (by simpa using hj)

theorem bytes_run {src dst el : TypeId} {f : Fl} {rows : List (List PV)} {rv : Value} {ns : List Int} (hs : C.P.underlying src = some (.slice el)) (he : C.P.underlying el = some (.int .u8)) (hd : C.P.underlying dst = some .string) (hr : Rel g w (.sl f 1 rows) rv) (hb : pbs rows = some ns) :
  (convert src dst rv).run C.P w = .ok (.string (bsOf ns)) w := by
 obtain ⟨hl, hg⟩ := pbs_get rows ns hb
 cases hr with
 | slnil =>
  have : ns = [] := List.eq_nil_of_length_eq_zero (by simpa using hl)
  subst this
  rw [run_convert_bytes_string w src dst el none 0 0 hs he hd]
  rfl
 | @sl _ _ _ b o' cap sp fv hc hlr h1 h2 hsp =>
  rw [run_convert_bytes_string w src dst el _ _ _ hs he hd]
  refine run_bytesToString w _ _ cap ns ?_
  have := run_loadCells_list (P := C.P) w ⟨b, o', sp⟩ (ns.map (Value.int .u8)) (fun j v hj => by
   simp only [List.getElem?_map, Option.map_eq_some_iff] at hj
   obtain ⟨n, hn, rfl⟩ := hj
   have hrow := hg j n hn
   have hne : sp = none := by
    rcases hsp with e1 | e1
    ·rw [e1] at hrow; simp at hrow
    ·exact e1
   subst hne
   obtain ⟨q1, q2, q3⟩ := h1 j _ 0 _ hrow rfl
   have q4 := rel_int (h2 j _ 0 _ hrow rfl)
   rw [q4] at q2
   rw [Addr.add_lit]
   simpa using q2)
  rw [List.length_map, hl] at this
  exact this

theorem pop_convert {s d : TypeId} {x : Operand} (ho : o.op = .convert s d x) (h : St n g w e S a.tmps) (hp : pop C o e = some v) : Doing C o g w a v := by
 unfold pop at hp
 rw [ho] at hp
 dsimp only at hp
 have hx := h.ev x
 split at hp
 ·rename_i ti k _ _ _ kk m hs hd hb
  obtain ⟨ds, hus⟩ := und_any (C := C) hs
  have hud := und_int (C := C) hd rfl
  rw [hb] at hx
  have hx := rel_int hx
  injection hp with hp
  subst hp
  refine Doing.bare h _ ?_ (.int _ _) rfl
  simp only [execOp, ho, hx, convert, Sem.run_bind, run_underlying hus, run_underlying hud, Result.andThen_ok, Conv.intToInt, Sem.run_pure]
 ·rename_i b hs hd hb
  have hus := und_str (C := C) hs rfl
  have hud := und_str (C := C) hd rfl
  rw [hb] at hx
  have hx := rel_str hx
  injection hp with hp
  subst hp
  refine Doing.bare h _ ?_ (.str _) rfl
  simp only [execOp, ho, hx, convert, Sem.run_bind, run_underlying hus, run_underlying hud, Result.andThen_ok, Sem.run_pure]
 ·rename_i el _ _ _ _ _ _ f rows hs hd hb
  have hus := und_slice (C := C) hs rfl
  have hud := und_str (C := C) hd rfl
  split at hp
  ·rename_i he
   have hue := und_int (C := C) he rfl
   rw [hb] at hx
   cases hbs : pbs rows with
   | none => rw [hbs] at hp; cases hp
   | some ns =>
    rw [hbs] at hp
    simp only [Option.map_some, Option.some.injEq] at hp
    subst hp
    refine Doing.bare h (.string (bsOf ns)) ?_ (.str _) rfl
    have hrun := bytes_run (w := w) hus hue hud hx hbs
    simp only [execOp, ho, Sem.run_bind, hrun, Result.andThen_ok, Sem.run_pure]
  ·cases hp
 ·cases hp

theorem pop_extract {x : Operand} {i : Nat} (ho : o.op = .extract x i) (h : St n g w e S a.tmps) (hp : pop C o e = some v) : Doing C o g w a v := by
 unfold pop at hp
 rw [ho] at hp
 dsimp only at hp
 have hx := h.ev x
 split at hp
 ·rename_i vs hb
  rw [hb] at hx
  cases hc : vs[i]? with
  | none => rw [hc] at hp; cases hp
  | some u =>
   rw [hc] at hp
   simp only [Option.map_some, Option.some.injEq] at hp
   subst hp
   obtain ⟨us, hus, hl, hr⟩ : ∃ us, a.eval x = .tuple us ∧ vs.length = us.size ∧ ∀ (k : Nat) v rv, vs[k]? = some v → us[k]? = some rv → Rel g w v rv := by
    generalize a.eval x = q at hx
    cases hx with
    | tup hl hr => exact ⟨_, rfl, hl, hr⟩
   have hlt : i < us.size := by rw [← hl]; exact (List.getElem?_eq_some_iff.1 hc).1
   have he : us[i]? = some us[i] := Array.getElem?_eq_getElem hlt
   refine Doing.still h us[i] ?_ fun d => .ofBare (hr _ _ _ hc he)
   simp only [execOp, ho, hus, Instr.extract, he, Sem.run_bind, Sem.run_pure, Result.andThen_ok]
 ·cases hp

theorem pop_makeFunc {f : Fn} {xs cs : Array Operand} (ho : o.op = .makeFunc f xs cs) (h : St n g w e S a.tmps) (hp : pop C o e = some v) : Doing C o g w a v := by
 unfold pop at hp
 rw [ho] at hp
 dsimp only at hp
 injection hp with hp
 subst hp
 refine Doing.bare h (.func f (xs.map a.eval) (cs.map a.eval)) ?_ ?_ rfl
 ·simp only [execOp, ho, Instr.makeFunc, Sem.run_bind, Sem.run_pure, Result.andThen_ok]
 ·have key : ∀ (ys : Array Operand) (k : Nat) v rv, (ys.toList.map fun x => (ev x e).bare)[k]? = some v → (ys.map a.eval)[k]? = some rv → Rel g w v rv := by
   intro ys k v rv h1 h2
   simp only [List.getElem?_map, Option.map_eq_some_iff, Array.getElem?_map] at h1 h2
   obtain ⟨p, h1, rfl⟩ := h1
   obtain ⟨q, h2, rfl⟩ := h2
   rw [Array.getElem?_toList, h2] at h1
   injection h1 with h1
   subst h1
   exact (h.ev q).bare
  exact .fn (by simp) (by simp) (key xs) (key cs)
end
end Go.VL

/- VL, part 8: slices, len; pop as a whole. -/
namespace Go.VL
open Go

section
variable {C : Ctx} {o : Oper} {g : Gh} {w : World} {a : Act} {e : Env} {n : Nat} {S : Store} {v : PV}

theorem bounds_run (isSlice : Bool) {len cap : Nat} {lo hi : Option PV} {low high : Option Value} {l h : Int} (hl : bnd lo 0 = some l) (hh : bnd hi len = some h)
  (rl : ∀ p q, lo = some p → low = some q → Rel g w p q) (rh : ∀ p q, hi = some p → high = some q → Rel g w p q) (sl : lo.isSome = low.isSome) (sh : hi.isSome = high.isSome) (h0 : 0 ≤ l) (h1 : l ≤ h) (h2 : h ≤ len) (h3 : len ≤ cap) :
  (Instr.sliceBounds isSlice len cap low high none).run C.P w = .ok (l.toNat, h.toNat, cap) w := by
 rcases bnd_run hl rl sl with ⟨rfl, rfl, rfl⟩ | ⟨k1, rfl⟩ <;> rcases bnd_run hh rh sh with ⟨rfl, rfl, rfl⟩ | ⟨k2, rfl⟩
 ·simp [Instr.sliceBounds]
 ·have b2 := sliceBound_ok (w := w) (P := C.P) (k := k2) (l := h) (y := cap) (code := if isSlice then .sliceAcap else .sliceAlen) ⟨by omega, by omega⟩
  simp only [Instr.sliceBounds, Sem.run_bind, Sem.run_pure, Result.andThen_ok, b2]
  rfl
 ·have b1 := sliceBound_ok (w := w) (P := C.P) (k := k1) (l := l) (y := len) (code := .sliceB) ⟨h0, by omega⟩
  simp only [Instr.sliceBounds, Sem.run_bind, Sem.run_pure, Result.andThen_ok, Option.isSome_none, Bool.false_eq_true, if_false, b1]
  simp
 ·have b2 := sliceBound_ok (w := w) (P := C.P) (k := k2) (l := h) (y := cap) (code := if isSlice then .sliceAcap else .sliceAlen) ⟨by omega, by omega⟩
  have b1 := sliceBound_ok (w := w) (P := C.P) (k := k1) (l := l) (y := h.toNat) (code := .sliceB) ⟨h0, by omega⟩
  simp only [Instr.sliceBounds, Sem.run_bind, Sem.run_pure, Result.andThen_ok, b2, Option.isSome_none, Bool.false_eq_true, if_false, b1]

theorem bounds3_run {len cap : Nat} {lo hi : Option PV} {low high : Option Value} {l h m : Int} {km : IntKind} (hl : bnd lo 0 = some l) (hh : bnd hi len = some h) (hs : hi.isSome = true)
  (rl : ∀ p q, lo = some p → low = some q → Rel g w p q) (rh : ∀ p q, hi = some p → high = some q → Rel g w p q) (sl : lo.isSome = low.isSome) (sh : hi.isSome = high.isSome) (h0 : 0 ≤ l) (h1 : l ≤ h) (h2 : h ≤ len) (h3 : len ≤ cap) (hm : m = h) :
  (Instr.sliceBounds true len cap low high (some (.int km m))).run C.P w = .ok (l.toNat, h.toNat, m.toNat) w := by
 subst hm
 have b3 := sliceBound_ok (w := w) (P := C.P) (k := km) (l := m) (y := cap) (code := .slice3Acap) ⟨by omega, by omega⟩
 rcases bnd_run hh rh sh with ⟨rfl, rfl, rfl⟩ | ⟨k2, rfl⟩
 ·simp at hs
 ·have b2 := sliceBound_ok (w := w) (P := C.P) (k := k2) (l := m) (y := m.toNat) (code := .slice3B) ⟨by omega, by omega⟩
  rcases bnd_run hl rl sl with ⟨rfl, rfl, rfl⟩ | ⟨k1, rfl⟩
  ·simp only [Instr.sliceBounds, Sem.run_bind, Sem.run_pure, Result.andThen_ok, if_true, b3, b2]
   rfl
  ·have b1 := sliceBound_ok (w := w) (P := C.P) (k := k1) (l := l) (y := m.toNat) (code := .slice3C) ⟨h0, by omega⟩
   simp only [Instr.sliceBounds, Sem.run_bind, Sem.run_pure, Result.andThen_ok, if_true, b3, b2, Option.isSome_some, b1]

/-- A stretch of a slice. -/
theorem sl_stretch {f f' : Fl} {sz : Nat} {rows : List (List PV)} {b o' cap : Nat} {sp : Option Nat} (h : Rel g w (.sl f sz rows) (.slice (some ⟨b, o', sp⟩) rows.length cap)) {l hh m : Nat} (h1 : l ≤ hh) (h2 : hh ≤ rows.length) (h3 : hh ≤ m) (h4 : m ≤ cap) :
  Rel g w (.sl f' sz ((rows.drop l).take (hh - l))) (.slice (if m = l then some ⟨b, o', sp⟩ else some (Addr.add ⟨b, o', sp⟩ (l * sz))) (hh - l) (m - l)) := by
 have hlen : ((rows.drop l).take (hh - l)).length = hh - l := by simp; omega
 by_cases e : m = l
 ·rw [if_pos e]
  have hz : hh - l = 0 := by omega
  have hr : (rows.drop l).take (hh - l) = [] := by rw [hz]; rfl
  rw [hr, hz]
  have := @Rel.sl g w f' sz [] b o' (m - l) sp (fun _ _ => Go.undef) (by simp) (by simp) (by simp) (by simp) (.inl rfl)
  simpa using this
 ·rw [if_neg e]
  cases h with
  | sl fv hc hl h5 h6 hs =>
   have hadd : Addr.add ⟨b, o', sp⟩ (l * sz) = ⟨b, o' + l * sz, if l * sz = 0 then sp else none⟩ := by
    unfold Addr.add
    split <;> simp_all
   rw [hadd]
   have key : ∀ (j : Nat) (c : List PV), ((rows.drop l).take (hh - l))[j]? = some c → rows[l + j]? = some c := by
    intro j c hj
    rw [List.getElem?_take] at hj
    split at hj
    ·rwa [List.getElem?_drop] at hj
    ·cases hj
   have := @Rel.sl g w f' sz ((rows.drop l).take (hh - l)) b (o' + l * sz) (m - l) (if l * sz = 0 then sp else none) (fun j k => fv (l + j) k) (by omega) (fun j c hj => hl _ _ (key j c hj)) (fun j c k v hj hk => by
    have := h5 _ _ k v (key j c hj) hk
    rw [Nat.add_mul, Nat.add_assoc, ← Nat.add_assoc o'] at this
    exact this) (fun j c k v hj hk => h6 _ _ k v (key j c hj) hk) (hs.elim (fun h => .inl (by rw [h]; simp)) (fun h => .inr (by rw [h]; split <;> rfl)))
   rwa [hlen] at this

theorem optMap_rel (h : St n g w e S a.tmps) (x : Option Operand) : ∀ p q, x.map (ev · e) = some p → x.map a.eval = some q → Rel g w p q := by
 intro p q h1 h2
 cases x with
 | none => cases h1
 | some x =>
  injection h1 with h1
  injection h2 with h2
  subst h1; subst h2
  exact h.ev x

theorem pop_slice {t : TypeId} {x : Operand} {lo hi mx : Option Operand} (ho : o.op = .slice t x lo hi mx) (h : St n g w e S a.tmps) (hp : pop C o e = some v) : Doing C o g w a v := by
 unfold pop at hp
 rw [ho] at hp
 dsimp only at hp
 have hx := h.ev x
 have rl := optMap_rel h lo
 have rh := optMap_rel h hi
 have rm := optMap_rel h mx
 have sl : (lo.map (ev · e)).isSome = (lo.map a.eval).isSome := by cases lo <;> rfl
 have sh : (hi.map (ev · e)).isSome = (hi.map a.eval).isSome := by cases hi <;> rfl
 split at hp
 ·rename_i s hT hs
  have hu := und_str (C := C) hT rfl
  rw [hs] at hx
  have hx := rel_str hx
  simp only [pslice] at hp
  split at hp
  ·rename_i l hh h1 h2 h3
   split at hp
   ·rename_i hc
    injection hp with hp
    subst hp
    have hmx : mx = none := by cases mx with | none => rfl | some y => cases h3
    have hb := bounds_run (C := C) (w := w) (g := g) false (len := s.size) (cap := s.size) h1 h2 rl rh sl sh hc.1 hc.2.1 hc.2.2 (Nat.le_refl _)
    refine Doing.bare h _ ?_ (.str _) rfl
    subst hmx
    simp only [execOp, ho, hx, Instr.sliceAt, Instr.slice, Option.map_none, Sem.run_bind, run_underlying hu, Result.andThen_ok, Option.isSome_none, Bool.false_eq_true, if_false, hb, Sem.run_pure]
   ·cases hp
  ·cases hp
 ·rename_i el _ _ _ f sz rows hT hs
  have hu := und_slice (C := C) hT rfl
  rw [hs] at hx
  split at hp
  ·rename_i te hte
   split at hp
   ·rename_i hsz
    subst hsz
    simp only [pslice] at hp
    split at hp
    ·rename_i l hh h1 h2
     split at hp
     ·rename_i hc
      have hx0 := hx
      rcases sl_parts hx with ⟨hv, hr⟩ | ⟨b, o', sp, cap, hv, hcap, hsp⟩
      ·-- nil
       subst hr
       have hl0 : l = 0 := by have := hc.2.2; simp at this; omega
       have hh0 : hh = 0 := by have := hc.2.2; simp at this; omega
       subst hl0; subst hh0
       split at hp
       ·rename_i hm
        injection hp with hp
        subst hp
        have hmx : mx = none := by cases mx with | none => rfl | some y => cases hm
        subst hmx
        have hb := bounds_run (C := C) (w := w) (g := g) true (len := 0) (cap := 0) h1 h2 rl rh sl sh (by omega) (by omega) (by omega) (Nat.le_refl _)
        refine Doing.bare h (.slice none 0 0) ?_ (.slnil _ _) rfl
        simp only [execOp, ho, hv, Instr.sliceAt, Instr.slice, Option.map_none, Sem.run_bind, run_underlying hu, Result.andThen_ok, hb, C.sizeOf hte, Sem.run_pure]
        rfl
       ·rename_i km m hm
        split at hp
        ·rename_i hmh
         injection hp with hp
         subst hp
         obtain ⟨y, hy, hym⟩ : ∃ y, mx = some y ∧ ev y e = .int km m := by
          cases mx with
          | none => cases hm
          | some y => injection hm with hm; exact ⟨y, rfl, hm⟩
         subst hy
         have hmr := rel_int (hym ▸ h.ev y)
         have hb := bounds3_run (C := C) (w := w) (g := g) (len := 0) (cap := 0) (km := km) h1 h2 hmh.2 rl rh sl sh (by omega) (by omega) (by omega) (Nat.le_refl _) hmh.1
         refine Doing.still h (.slice none 0 0) ?_ fun d => ⟨.slnil _ _, by simp [Tail]⟩
         have hmz : m = 0 := hmh.1
         subst hmz
         simp only [execOp, ho, hv, hmr, Instr.sliceAt, Instr.slice, Option.map_some, Sem.run_bind, run_underlying hu, Result.andThen_ok, hb, C.sizeOf hte, Sem.run_pure]
         rfl
        ·cases hp
       ·cases hp
      ·split at hp
       ·rename_i hm
        injection hp with hp
        subst hp
        have hmx : mx = none := by cases mx with | none => rfl | some y => cases hm
        subst hmx
        have hb := bounds_run (C := C) (w := w) (g := g) true (len := rows.length) (cap := cap) h1 h2 rl rh sl sh hc.1 hc.2.1 hc.2.2 hcap
        rw [hv] at hx
        have hst := sl_stretch (f' := .no) hx (l := l.toNat) (hh := hh.toNat) (m := cap) (by omega) (by omega) (by omega) (Nat.le_refl _)
        refine Doing.bare h _ ?_ hst rfl
        simp only [execOp, ho, hv, Instr.sliceAt, Instr.slice, Option.map_none, Sem.run_bind, run_underlying hu, Result.andThen_ok, hb, C.sizeOf hte, Sem.run_pure, Option.map_some]
       ·rename_i km m hm
        split at hp
        ·rename_i hmh
         injection hp with hp
         subst hp
         obtain ⟨y, hy, hym⟩ : ∃ y, mx = some y ∧ ev y e = .int km m := by
          cases mx with
          | none => cases hm
          | some y => injection hm with hm; exact ⟨y, rfl, hm⟩
         subst hy
         have hmr := rel_int (hym ▸ h.ev y)
         have hb := bounds3_run (C := C) (w := w) (g := g) (len := rows.length) (cap := cap) (km := km) h1 h2 hmh.2 rl rh sl sh hc.1 hc.2.1 hc.2.2 hcap hmh.1
         have hmz : m = hh := hmh.1
         subst hmz
         rw [hv] at hx
         have hst := sl_stretch (f' := .tail) hx (l := l.toNat) (hh := m.toNat) (m := m.toNat) (by omega) (by omega) (Nat.le_refl _) (by omega)
         refine Doing.still h _ ?_ fun d => ⟨hst, ?_⟩
         ·simp only [execOp, ho, hv, hmr, Instr.sliceAt, Instr.slice, Option.map_some, Sem.run_bind, run_underlying hu, Result.andThen_ok, hb, C.sizeOf hte, Sem.run_pure]
         ·have hlen : ((rows.drop l.toNat).take (m.toNat - l.toNat)).length = m.toNat - l.toNat := by simp; omega
          by_cases e0 : m.toNat = l.toNat
          ·rw [if_pos e0]
           refine ⟨.inl (by rw [e0]; simp), fun k k1 k2 => ?_⟩
           rw [hlen] at k1
           omega
          ·rw [if_neg e0]
           refine ⟨?_, fun k k1 k2 => ?_⟩
           ·by_cases ez : te.size = 0
            ·left; rw [ez]; simp
            ·right
             rcases hsp with e1 | e1
             ·have : rows.length = 0 := by rw [e1]; rfl
              have := hc.2.2
              omega
             ·unfold Addr.add
              split <;> simp_all
           rw [hlen] at k1
           omega
        ·cases hp
       ·cases hp
     ·cases hp
    ·cases hp
   ·cases hp
  ·cases hp
 ·rename_i el _ _ _ f id off len sz hT hs
  have hu := und_slice (C := C) hT rfl
  rw [hs] at hx
  split at hp
  ·rename_i te hte
   split at hp
   ·rename_i hsz
    subst hsz
    unfold parr at hp
    split at hp
    ·rename_i l hh h1 h2
     split at hp
     ·rename_i hc
      obtain ⟨ad, cap, hv, hcap, hbase⟩ : ∃ ad cap, a.eval x = .slice ad len cap ∧ ((ad = none → cap = 0) ∧ len ≤ cap) ∧ (len = 0 ∨ (id < g.nxt ∧ g.knd id = false ∧ ad = some ⟨(g.loc id).1, (g.loc id).2 + off, none⟩)) := by
       generalize a.eval x = q at hx
       cases hx with
       | arr0 f id off sz ad cap h => exact ⟨ad, cap, rfl, ⟨h, Nat.zero_le _⟩, .inl rfl⟩
       | arr f h1 h2 h3 => exact ⟨_, _, rfl, ⟨by simp, h2⟩, .inr ⟨h1, h3, rfl⟩⟩
      have hlc : len ≤ cap := hcap.2
      split at hp
      ·rename_i hm
       injection hp with hp
       subst hp
       have hmx : mx = none := by cases mx with | none => rfl | some y => cases hm
       subst hmx
       have hb := bounds_run (C := C) (w := w) (g := g) true (len := len) (cap := cap) h1 h2 rl rh sl sh hc.1 hc.2.1 hc.2.2 hlc
       refine Doing.bare h (.slice (if cap = l.toNat then ad else ad.map (·.add (l.toNat * te.size))) (hh.toNat - l.toNat) (cap - l.toNat)) ?_ ?_ rfl
       ·simp only [execOp, ho, hv, Instr.sliceAt, Instr.slice, Option.map_none, Sem.run_bind, run_underlying hu, Result.andThen_ok, hb, C.sizeOf hte, Sem.run_pure]
       ·by_cases e0 : hh.toNat - l.toNat = 0
        ·rw [e0]
         refine .arr0 _ _ _ _ _ _ fun hn => ?_
         have hadn : ad = none := by
          split at hn
          ·exact hn
          ·cases ad with | none => rfl | some _ => cases hn
         have := hcap.1 hadn
         omega
        ·rw [if_neg (by omega)]
         rcases hbase with h0 | ⟨hid, hkn, rfl⟩
         ·omega
         ·rw [Option.map_some, Addr.add_lit, Nat.add_assoc]
          exact .arr .no hid (by omega) hkn
      ·rename_i km m hm
       split at hp
       ·rename_i hmh
        injection hp with hp
        subst hp
        obtain ⟨y, hy, hym⟩ : ∃ y, mx = some y ∧ ev y e = .int km m := by
         cases mx with
         | none => cases hm
         | some y => injection hm with hm; exact ⟨y, rfl, hm⟩
        subst hy
        have hmr := rel_int (hym ▸ h.ev y)
        have hb := bounds3_run (C := C) (w := w) (g := g) (len := len) (cap := cap) (km := km) h1 h2 hmh.2.2 rl rh sl sh hc.1 hc.2.1 hc.2.2 hlc hmh.1
        obtain ⟨e1, e2, _⟩ := hmh
        subst e1
        subst e2
        refine Doing.still h (.slice ad 0 0) ?_ fun d => ?_
        ·simp only [execOp, ho, hv, hmr, Instr.sliceAt, Instr.slice, Option.map_some, Sem.run_bind, run_underlying hu, Result.andThen_ok, hb, C.sizeOf hte, Sem.run_pure, if_pos, Nat.sub_self]
        ·cases ad with
         | none => exact ⟨.slnil _ _, by simp [Tail]⟩
         | some ad =>
          refine ⟨?_, .inl (by simp), fun k k1 k2 => by simp at k2⟩
          obtain ⟨b, o', sp⟩ := ad
          have := @Rel.sl g w .tail te.size [] b o' 0 sp (fun _ _ => Go.undef) (by simp) (by simp) (by simp) (by simp) (.inl rfl)
          simpa using this
       ·cases hp
      ·cases hp
     ·cases hp
    ·cases hp
   ·cases hp
  ·cases hp
 ·cases hp

theorem pop_builtin {b : Builtin} {xs : Array Operand} {ts : Array TypeId} (ho : o.op = .call ⟨.builtin b, xs, ts⟩) (h : St n g w e S a.tmps) (hp : pop C o e = some v) : Doing C o g w a v := by
 unfold pop at hp
 rw [ho] at hp
 dsimp only at hp
 have hl : ∀ p q, xs.toList.map (ev · e) = [p, q] → ∃ x y, xs = #[x, y] ∧ ev x e = p ∧ ev y e = q := by
  intro p q hx
  obtain ⟨l⟩ := xs
  match l, hx with
  | [x, y], hx => simp at hx; exact ⟨x, y, rfl, hx.1, hx.2⟩
 have hl1 : ∀ p, xs.toList.map (ev · e) = [p] → ∃ x, xs = #[x] ∧ ev x e = p := by
  intro p hx
  obtain ⟨l⟩ := xs
  match l, hx with
  | [x], hx => simp at hx; exact ⟨x, rfl, hx⟩
 unfold pcall at hp
 split at hp
 ·rename_i f sz rows hx
  obtain ⟨x, rfl, hx1⟩ := hl1 _ hx
  split at hp
  ·rename_i el _ _ _ hT
   injection hp with hp
   subst hp
   cases ht0 : ts[0]? with
   | none => rw [ht0] at hT; cases hT
   | some t0 =>
    rw [ht0] at hT
    have hu := und_slice (C := C) (t := t0) hT rfl
    have hr := h.ev x
    rw [hx1] at hr
    refine Doing.bare h (.int .i64 rows.length) ?_ (.int _ _) rfl
    rcases sl_parts hr with ⟨hv, hr⟩ | ⟨b, o', sp, cap, hv, hcap, hsp⟩
    ·subst hr
     simp [execOp, ho, resolve, invoke, builtin, Builtin.len_, ht0, hv, run_underlying hu, goInt]
    ·simp [execOp, ho, resolve, invoke, builtin, Builtin.len_, ht0, hv, run_underlying hu, goInt]
  ·cases hp
 ·rename_i f id off len sz hx
  obtain ⟨x, rfl, hx1⟩ := hl1 _ hx
  split at hp
  ·rename_i el _ _ _ hT
   injection hp with hp
   subst hp
   cases ht0 : ts[0]? with
   | none => rw [ht0] at hT; cases hT
   | some t0 =>
    rw [ht0] at hT
    have hu := und_slice (C := C) (t := t0) hT rfl
    have hr := h.ev x
    rw [hx1] at hr
    refine Doing.bare h (.int .i64 len) ?_ (.int _ _) rfl
    obtain ⟨ad, cap, hv⟩ : ∃ ad cap, a.eval x = .slice ad len cap := by
     generalize a.eval x = q at hr
     cases hr with
     | arr0 f id off sz ad cap h => exact ⟨ad, cap, rfl⟩
     | arr f h1 h2 h3 => exact ⟨_, _, rfl⟩
    simp [execOp, ho, resolve, invoke, builtin, Builtin.len_, ht0, hv, run_underlying hu, goInt]
  ·cases hp
 ·rename_i s hx
  obtain ⟨x, rfl, hx1⟩ := hl1 _ hx
  split at hp
  ·rename_i _ _ _ hT
   injection hp with hp
   subst hp
   cases ht0 : ts[0]? with
   | none => rw [ht0] at hT; cases hT
   | some t0 =>
    rw [ht0] at hT
    have hu := und_str (C := C) (t := t0) hT rfl
    have hr := h.ev x
    rw [hx1] at hr
    have hr := rel_str hr
    refine Doing.bare h (.int .i64 s.size) ?_ (.int _ _) rfl
    simp [execOp, ho, resolve, invoke, builtin, Builtin.len_, ht0, hr, run_underlying hu, goInt]
  ·cases hp
 ·rename_i k p k2 q hx
  obtain ⟨x, y, rfl, h1, h2⟩ := hl _ _ hx
  injection hp with hp
  subst hp
  have hr := rel_int (h1 ▸ h.ev x)
  have hs := rel_int (h2 ▸ h.ev y)
  refine Doing.bare h _ ?_ (.int _ _) rfl
  simp [execOp, ho, resolve, invoke, builtin, Builtin.max_, Builtin.max2, hr, hs]
 ·rename_i k p k2 q hx
  obtain ⟨x, y, rfl, h1, h2⟩ := hl _ _ hx
  injection hp with hp
  subst hp
  have hr := rel_int (h1 ▸ h.ev x)
  have hs := rel_int (h2 ▸ h.ev y)
  refine Doing.bare h _ ?_ (.int _ _) rfl
  simp [execOp, ho, resolve, invoke, builtin, Builtin.min_, Builtin.min2, hr, hs]
 ·cases hp

theorem pop_sound (h : St n g w e S a.tmps) (hp : pop C o e = some v) : Doing C o g w a v := by
 have hp' := hp
 unfold pop at hp'
 split at hp'
 ·rename_i x ho; exact pop_move (.inl ho) h hp
 ·rename_i x ho; exact pop_move (.inr ho) h hp
 ·rename_i ho; exact pop_pick ho h hp
 ·rename_i ho; exact pop_nilCheck ho h hp
 ·rename_i ho; exact pop_load ho h hp
 ·rename_i ho; exact pop_fieldAddr ho h hp
 ·rename_i ho; exact pop_indexAddr ho h hp
 ·rename_i ho; exact pop_index ho h hp
 ·rename_i ho; exact pop_field ho h hp
 ·rename_i ho; exact pop_binOp ho h hp
 ·rename_i ho; exact pop_unOp ho h hp
 ·rename_i ho; exact pop_convert ho h hp
 ·rename_i ho; exact pop_extract ho h hp
 ·rename_i ho; exact pop_build ho h hp
 ·rename_i ho; exact pop_buildSlice ho h hp
 ·rename_i ho; exact pop_box ho h hp
 ·rename_i ho; exact pop_slice ho h hp
 ·rename_i ho; exact pop_makeFunc ho h hp
 ·rename_i ho; exact pop_builtin ho h hp
 ·cases hp'
end
end Go.VL

/- VL, part 9: what owns changes: new variables, stores, append, calls. -/
namespace Go.VL
open Go

/-- Only frozen cells, and where objects lie, count for what a value means. -/
theorem Rel.same {g g' : Gh} {w w' : World} (hl : ∀ b o, g.lab b o = .frozen → g'.lab b o = .frozen) (hc : ∀ b o v, g.lab b o = .frozen → w.cell? ⟨b, o, none⟩ = some v → w'.cell? ⟨b, o, none⟩ = some v)
  (ho : ∀ id, id < g.nxt → g'.loc id = g.loc id) (hn : g.nxt ≤ g'.nxt) (hm : ∀ b, NoMark w b → NoMark w' b) {v : PV} {rv : Value} (h : Rel g w v rv) (hkd : ∀ id, id < g.nxt → g'.knd id = g.knd id := by first | exact fun _ _ => rfl | assumption) : Rel g' w' v rv := by
 induction h with
 | undef v => exact .undef v
 | bool b => exact .bool b
 | int k n => exact .int k n
 | str s => exact .str s
 | nilp => exact .nilp
 | ip f h _ ih => exact .ip f (fun k v hk => ⟨hl _ _ (h k v hk).1, hc _ _ _ (h k v hk).1 (h k v hk).2.1, (h k v hk).2.2⟩) ih
 | @ref id off hi hkn =>
  rw [← ho id hi]
  exact .ref (Nat.lt_of_lt_of_le hi hn) ((hkd id hi).trans hkn)
 | fresh a => exact .fresh a
 | slnil f sz => exact .slnil f sz
 | sl fv hcp hle h _ hs ih => exact .sl fv hcp hle (fun j c k v hj hk => ⟨hl _ _ (h j c k v hj hk).1, hc _ _ _ (h j c k v hj hk).1 (h j c k v hj hk).2.1, (h j c k v hj hk).2.2⟩) ih
 | agg hl h1 _ ih => exact .agg hl h1 ih
 | tup hl _ ih => exact .tup hl ih
 | fn hl hm _ _ ih1 ih2 => exact .fn hl hm ih1 ih2
 | nilf => exact .nilf
 | ifc t _ ih => exact .ifc t ih
 | nili => exact .nili
 | nils => exact .nils
 | arr0 f id off sz a cap h => exact .arr0 f id off sz a cap h
 | arr f hi hcap hkn =>
  rw [← ho _ hi]
  exact .arr f (Nat.lt_of_lt_of_le hi hn) hcap ((hkd _ hi).trans hkn)
 | np f hb h _ ih => exact .np f (hm _ hb) (fun k v hk => ⟨hl _ _ (h k v hk).1, hc _ _ _ (h k v hk).1 (h k v hk).2.1, (h k v hk).2.2⟩) ih
 | nq f hb h _ ih => exact .nq f (hm _ hb) (fun k v hk => ⟨hl _ _ (h k v hk).1, hc _ _ _ (h k v hk).1 (h k v hk).2.1, (h k v hk).2.2⟩) ih
 | siter b s pos => exact .siter b s pos
 | mapo b L => exact .mapo b L
 | mapr b => exact .mapr b
 | mref hi hkn =>
  rw [← ho _ hi]
  exact .mref (Nat.lt_of_lt_of_le hi hn) ((hkd _ hi).trans hkn)
 | nilm => exact .nilm
 | miter b id since last seen => exact .miter b id since last seen

def argEnv (args : List PV) : Env := fun t => args.getD t .undef

def Callable (P : Program) (f : FuncId) : Prop := ∃ fn, P.funcs[f]? = some fn ∧ (fn.name == "runtime.NumGoroutine") = false ∧ fn.body.isNone = false

def PCalls (P : Program) (f : FuncId) (args : List PV) (S : Store) (K : PV → Store → Prop) : Prop :=
 Callable P f ∧ ∀ (g : Gh) (w : World) (rargs : Array Value), St args.length g w (argEnv args) S rargs →
  Calls P f rargs w fun en w' => ∃ rv v S' g', en = .returned rv ∧ K v S' ∧ Fr g g' w w' ∧ Top g' w' 0 v rv ∧ (∀ id cells, S' id = some cells → ObjOk g' w' id cells) ∧ ∀ b o, w'.heap.size ≤ b → g'.lab b o = .free

def retK (K : Env → Store → Prop) (e : Env) (d : Option Nat) : PV → Store → Prop := fun v S => K (e.putO d v) S

/-- The arguments of a call; mv: they go with their flags. -/
def carg (C : Ctx) (mv : Bool) (t : TypeId) (x : Operand) (e : Env) : PV :=
 match mv, x with
 | true, .tmp s => e s
 | true, .const (.slice none 0 0) => .nils
 | _, x => opd C t x e
def cargs (C : Ctx) (mv : Bool) : List Operand → List TypeId → Env → List PV
 | [], _, _ => []
 | x :: xs, t :: ts, e => carg C mv t x e :: cargs C mv xs ts e
 | x :: xs, [], e => carg C mv 0 x e :: cargs C mv xs [] e
def argPos : List Operand → Nat → Option Nat
 | [], _ => none
 | .tmp s :: xs, t => if s = t then some 0 else (argPos xs t).map (· + 1)
 | _ :: xs, t => (argPos xs t).map (· + 1)
/-- No slot stands twice. -/
def apart : List Operand → Bool
 | [] => true
 | .tmp s :: xs => (argPos xs s).isNone && apart xs
 | _ :: xs => apart xs
def afterCall (mv : Bool) (xs : List Operand) (e : Env) : Env := if mv then (fun t => if (argPos xs t).isSome then (e t).bare else e t) else e
def mvd (X : Fx) : Option Nat → Bool
 | some d => X.mv d
 | none => false

/-- The room that is asked of what grows: of bytes somewhat more. -/
def capOf : Nat → Nat
 | 1 => 190000000000000
 | _ => 140737488355328
def capZ : Nat → Int
 | 1 => 190000000000000
 | _ => 140737488355328
theorem capOf_le (b : Nat) : capOf b ≤ 190000000000000 ∧ capZ b ≤ 190000000000000 := by
 unfold capOf capZ
 split <;> decide
theorem capOf_one : capOf 1 = 190000000000000 := rfl
theorem capOf_two (b : Nat) : capOf (b + 2) = 140737488355328 := rfl
theorem capZ_one : capZ 1 = 190000000000000 := rfl
def pappendTo (C : Ctx) (te : TI) (tx : TypeId) (sz : Nat) (rows : List (List PV)) (x : PV) : Option (Nat × List (List PV) × List (List PV)) :=
 match C.T tx with
 | some ti => (match ti.k, x with
  | .slice _, .sl _ sz2 more => if te.size = sz ∧ sz = sz2 ∧ 0 < sz ∧ (rows.length + more.length) * te.bytes ≤ capOf te.bytes ∧ rows.length + more.length ≤ capOf te.bytes then some (sz, rows, more) else none
  | .str, .str b => if te.size = sz ∧ sz = 1 ∧ (rows.length + b.size) * te.bytes ≤ capOf te.bytes ∧ rows.length + b.size ≤ capOf te.bytes then some (1, rows, b.data.toList.map fun c => [.int .u8 (c.toNat : Int)]) else none
  | _, _ => none)
 | none => none

def pappend (C : Ctx) (ts : List TypeId) (s x : PV) : Option (Nat × List (List PV) × List (List PV)) :=
 match ts with
 | [t, tx] => (match C.T t with
  | some ⟨.slice el, _, _, _⟩ => (match C.T el with
   | some te => (match s with
    | .sl .tail sz rows => pappendTo C te tx sz rows x
    | _ => none)
   | none => none)
  | _ => none)
 | _ => none

/-- An array of one's own, as rows. -/
def arows (cells : List PV) (off len sz : Nat) : List (List PV) := (List.range len).map fun j => ((cells.drop (off + j * sz)).take sz).map PV.bare
/-- A value, with an array of one's own as a slice of what stands there. -/
def vw (S : Store) (v : PV) : PV :=
 match v with
 | .arr _ id off len sz => (match S id with
  | some cells => if off + len * sz ≤ cells.length then .sl .no sz (arows cells off len sz) else .undef
  | none => .undef)
 | v => v
def bareAll (rows : List (List PV)) : List PV := rows.flatten.map PV.bare

def dstOk (X : Fx) : Option Nat → Bool
 | some d => decide (d < X.n)
 | none => true

def vPut (X : Fx) (d : Option Nat) (v : Option PV) (K : Env → Store → Prop) (e : Env) (S : Store) : Prop :=
 match d, v with
 | some d, some v => if d < X.n then K (e.put d v) S else False
 | _, _ => False

def vAlloc (C : Ctx) (X : Fx) (t : TypeId) (d : Option Nat) (K : Env → Store → Prop) (e : Env) (S : Store) : Prop :=
 match d, C.T t with
 | some d, some ti => if d < X.n then (if X.vars d then ∀ id, S id = none → K (e.put d (.ref id 0)) (S.set id (some (ti.zero.map PV.opn))) else K (e.put d (.fresh ti.size)) S) else False
 | _, _ => False

def vBox (C : Ctx) (X : Fx) (o : Oper) (x : Operand) (d : Option Nat) (K : Env → Store → Prop) (e : Env) (S : Store) : Prop :=
 match d with
 | some d => if X.vars d then (match pcells (ev x e) with | some cs => if d < X.n then ∀ id, S id = none → K (e.put d (.ref id 0)) (S.set id (some (cs.map PV.bare))) else False | none => False) else if X.mv d then (match pcells (ev x e) with | some cs => if d < X.n then K (e.put d (.np cs)) S else False | none => False) else vPut X (some d) (pop C o e) K e S
 | none => False

def isSl : PV → Bool
 | .sl _ _ _ => true
 | _ => false

def openN1 : PV → PV → PV
 | .sl _ sz [], .nils => .sl .tail sz []
 | _, c => c.bare
/-- What is put into an object, where nil slices have room for themselves. -/
def openN : List PV → List PV → List PV
 | z :: zs, c :: cs => openN1 z c :: openN zs cs
 | [], cs => cs.map PV.bare
 | _, [] => []

/-- A value put into an object: with its flag, where its slot is said to give it. -/
def vKeep (X : Fx) (x : Operand) (K : Env → Store → Prop) (e : Env) (S : Store) (id : Nat) (cells : List PV) (off : Nat) (cs zs : List PV) : Prop :=
 match x with
 | .tmp s => if X.mv s = true ∧ s < X.n ∧ isSl (e s) = true then K (e.put s (e s).bare) (S.set id (some (psplice cells off [e s]))) else if X.mv s = true then K e (S.set id (some (psplice cells off (openN zs cs)))) else K e (S.set id (some (psplice cells off (cs.map PV.bare))))
 | _ => K e (S.set id (some (psplice cells off (cs.map PV.bare))))

def vStore (C : Ctx) (X : Fx) (t : TypeId) (ad x : Operand) (d : Option Nat) (K : Env → Store → Prop) (e : Env) (S : Store) : Prop :=
 match d, ad, C.T t, pcells (opd C t x e) with
 | none, .tmp s, some ti, some cs => (match e s with
  | .fresh n => if cs.length = n ∧ ti.size = n ∧ s < X.n then K (e.put s (if X.mv s then .np cs else .ip cs 0)) S else False
  | .ref id off => (match S id with
   | some cells => if cs.length = ti.size ∧ off + cs.length ≤ cells.length then vKeep X x K e S id cells off cs ti.zero else False
   | none => False)
  | _ => False)
 | _, _, _, _ => False

/-- A value taken out of an object: with its flag, where the slot is said to take it. -/
def vTake (X : Fx) (ti : TI) (cells : List PV) (id off : Nat) (p : Option PV) (K : Env → Store → Prop) (e : Env) (S : Store) : Option Nat → Prop
 | some d => if X.mv d = true then (match ti.k.agg, cells[off]? with
   | false, some v => if d < X.n ∧ isSl v = true then K (e.put d v) (S.set id (some (psplice cells off [v.bare]))) else False
   | _, _ => False) else vPut X (some d) p K e S
 | none => False

def vLoad (C : Ctx) (X : Fx) (o : Oper) (t : TypeId) (x : Operand) (K : Env → Store → Prop) (e : Env) (S : Store) : Prop :=
 match ev x e, C.T t with
 | .ref id off, some ti => (match S id with
  | some cells => vTake X ti cells id off (pload ti (cells.map PV.bare) off) K e S o.dst
  | none => False)
 | _, _ => vPut X o.dst (pop C o e) K e S

def vMove (C : Ctx) (X : Fx) (o : Oper) (x : Operand) (K : Env → Store → Prop) (e : Env) (S : Store) : Prop :=
 match o.dst, x with
 | some d, .tmp s => if X.mv d then (if d < X.n ∧ s < X.n ∧ s ≠ d then K ((e.put s (e s).bare).put d (e s)) S else False) else (if d < X.n then K (e.put d (e s).bare) S else False)
 | some d, .const (.slice none 0 0) => if X.vars d then (match nilOf C o.type with
   | .sl .tail sz [] => if d < X.n then ∀ id, S id = none → K (e.put d (.arr .tail id 0 0 sz)) (S.set id (some [])) else False
   | _ => False) else vPut X o.dst (pop C o e) K e S
 | _, _ => vPut X o.dst (pop C o e) K e S

/-- append to an array of one's own. -/
def vAppArr (C : Ctx) (X : Fx) (s : Nat) (ts : List TypeId) (x : PV) (d : Nat) (K : Env → Store → Prop) (e : Env) (S : Store) : PV → Prop
 | .arr .tail id 0 len sz => (match S id, pappend C ts (.sl .tail sz (List.replicate len [])) x with
  | some cells, some (_, _, more) => if d < X.n ∧ s < X.n ∧ cells.length = len * sz then
    ∀ id', (S.set id none) id' = none → K ((e.put s (e s).bare).put d (.arr .tail id' 0 (len + more.length) sz)) ((S.set id none).set id' (some (cells.map PV.bare ++ bareAll more))) else False
  | _, _ => False)
 | .sl .tail sz [] => (match pappend C ts (.sl .tail sz []) x with
  | some (_, _, more) => if d < X.n ∧ s < X.n then
    ∀ id', S id' = none → K ((e.put s (e s).bare).put d (.arr .tail id' 0 more.length sz)) (S.set id' (some (bareAll more))) else False
  | none => False)
 | _ => False

def vAppend (C : Ctx) (X : Fx) (xs : List Operand) (ts : Array TypeId) (d : Option Nat) (K : Env → Store → Prop) (e : Env) (S : Store) : Prop :=
 match d, xs with
 | some d, [.tmp s, x] => if X.vars d then vAppArr C X s ts.toList (vw S (ev x e)) d K e S (e s) else (match pappend C ts.toList (e s) (vw S (ev x e)) with
  | some (sz, rows, more) => if d < X.n ∧ s < X.n then K ((e.put s (e s).bare).put d (.sl .tail sz (rows ++ more))) S else False
  | none => False)
 | some d, [.const (.slice none 0 0), x] => (match pappend C ts.toList ((ts[0]?).elim .undef (nilOf C)) (vw S (ev x e)) with
  | some (sz, rows, more) => if d < X.n then K (e.put d (.sl .tail sz (rows ++ more))) S else False
  | none => False)
 | _, _ => False

/-- The zero value of a map from texts. -/
def mapS (P : Program) (t : TypeId) : Option Value :=
 match P.underlying t with
 | some (.map k el) => (match P.underlying k with
  | some .string => (P.info? el).bind (·.zero)
  | _ => none)
 | _ => none
/-! maps that are objects -/
def pvZ1 : Value → PV
 | .bool b => .bool b
 | .int k n => .int k n
 | .string s => .str s
 | .map none => .nilm
 | _ => .undef
def pvZ : Value → PV
 | .agg cs => if cs.toList.all Value.oneCell' then .agg (cs.toList.map pvZ1) else .undef
 | v => pvZ1 v
def idxM (k : ByteArray) : List (Nat × ByteArray) → Nat → Option Nat
 | [], _ => none
 | p :: l, i => if k == p.2 then some i else idxM k l (i + 1)
def lookM (k : ByteArray) (ks : List (Nat × ByteArray)) (vs : List PV) : Option PV := (idxM k ks 0).bind fun j => vs[j]?
def updM (k : ByteArray) (v : PV) (cl : Nat) (ks : List (Nat × ByteArray)) (vs : List PV) : PV :=
 match idxM k ks 0 with
 | some j => .mcon cl ks (vs.set j v)
 | none => .mcon (cl + 1) (ks ++ [(cl, k)]) (vs ++ [v])
def delM (k : ByteArray) (cl : Nat) (ks : List (Nat × ByteArray)) (vs : List PV) : PV :=
 match idxM k ks 0 with
 | some j => .mcon cl (ks.eraseIdx j) (vs.eraseIdx j)
 | none => .mcon cl ks vs
def lkM (ok : Bool) (z : PV) (o : Option PV) : PV := if ok then .tup [o.getD z, .bool o.isSome] else o.getD z
/-- What a map that is an object has. -/
def mapAt (S : Store) (id : Nat) : Option (Nat × List (Nat × ByteArray) × List PV) :=
 match S id with
 | some [.mcon cl ks vs] => some (cl, ks, vs)
 | _ => none
theorem mapAt_some {S : Store} {id cl : Nat} {ks : List (Nat × ByteArray)} {vs : List PV} (h : mapAt S id = some (cl, ks, vs)) : S id = some [.mcon cl ks vs] := by
 unfold mapAt at h
 split at h
 ·rename_i h1
  injection h with h
  injection h with h2 h3
  injection h3 with h3 h4
  subst h2; subst h3; subst h4
  exact h1
 ·cases h
def vLkO (X : Fx) (ok : Bool) (K : Env → Store → Prop) (e : Env) (S : Store) (z : Option Value) (i : PV) (d : Option Nat) (m : Option (Nat × List (Nat × ByteArray) × List PV)) : Prop :=
 match z, i, d, m with
 | some z, .str k, some d, some (_, ks, vs) => d < X.n ∧ K (e.put d (lkM ok (pvZ z) (lookM k ks vs))) S
 | _, _, _, _ => False
def vMuO (X : Fx) (K : Env → Store → Prop) (e : Env) (S : Store) (id : Nat) (z : Option Value) (i v : PV) (d : Option Nat) (m : Option (Nat × List (Nat × ByteArray) × List PV)) : Prop :=
 match z, i, d, m with
 | some _, .str k, none, some (cl, ks, vs) => K e (S.set id (some [updM k v.bare cl ks vs]))
 | _, _, _, _ => False
def vDlO (K : Env → Store → Prop) (e : Env) (S : Store) (d : Option Nat) (z : Option Value) : PV → PV → Prop
 | .mref id, .str k => (match z, d, mapAt S id with
  | some _, none, some (cl, ks, vs) => K e (S.set id (some [delM k cl ks vs]))
  | _, _, _ => False)
 | _, _ => False

def vLenO (X : Fx) (d : Option Nat) (K : Env → Store → Prop) (e : Env) (S : Store) (z : Option Value) (p : Option PV) : PV → Prop
 | .mref id => (match z, d, mapAt S id with
  | some _, some d, some (_, ks, _) => d < X.n ∧ K (e.put d (.int .i64 ks.length)) S
  | _, _, _ => False)
 | _ => vPut X d p K e S
def vRgM (X : Fx) (d : Nat) (K : Env → Store → Prop) (e : Env) (S : Store) (id : Nat) (z : Option Value) (m : Option (Nat × List (Nat × ByteArray) × List PV)) : Prop :=
 match z, m with
 | some _, some (cl, _, _) => d < X.n ∧ ∀ b : Nat, K (e.put d (.miter b id cl cl [])) S
 | _, _ => False
def vNxM (X : Fx) (d s : Nat) (K : Env → Store → Prop) (e : Env) (S : Store) (b id since : Nat) (seen : List Nat) (m : Option (Nat × List (Nat × ByteArray) × List PV)) : Prop :=
 match m with
 | some (cl, ks, vs) => (d < X.n ∧ s < X.n ∧ d ≠ s) ∧ (since ≤ cl ∧ ∀ k ∈ ks, k.1 < since) ∧ ((ks.all fun k => seen.contains k.1) = true → K (e.put d (.tup [.bool false])) S) ∧
   ∀ (j st : Nat) (k : ByteArray) (v : PV), ks[j]? = some (st, k) → vs[j]? = some v → seen.contains st = false → K ((e.put s (.miter b id since cl (seen ++ [st]))).put d (.tup [.bool true, .str k, v])) S
 | none => False
def vNextM (X : Fx) (x : Operand) (d : Option Nat) (K : Env → Store → Prop) (e : Env) (S : Store) : Prop :=
 match x, d with
 | .tmp s, some d => (match e s with
  | .miter b id since _ seen => vNxM X d s K e S b id since seen (mapAt S id)
  | _ => False)
 | _, _ => False
def vEnM (X : Fx) (d s : Nat) (K : Env → Store → Prop) (e : Env) (S : Store) (last : Nat) (seen : List Nat) (m : Option (Nat × List (Nat × ByteArray) × List PV)) : Prop :=
 match m with
 | some (cl, ks, vs) => ∃ (j st : Nat) (k : ByteArray) (v : PV), (cl = last ∧ seen.getLast? = some st ∧ ks[j]? = some (st, k) ∧ vs[j]? = some v ∧ d < X.n ∧ s < X.n) ∧ (ks.map fun k => k.1).Nodup ∧ K (e.put d (.tup [.str k, v])) S
 | none => False
def vEntry (X : Fx) (x : Operand) (d : Option Nat) (K : Env → Store → Prop) (e : Env) (S : Store) : Prop :=
 match x, d with
 | .tmp s, some d => (match e s with
  | .miter _ id _ last seen => vEnM X d s K e S last seen (mapAt S id)
  | _ => False)
 | _, _ => False
def vEqM (X : Fx) (op : BinOp) (b : Bool) (z : Option Value) (d : Option Nat) (K : Env → Store → Prop) (e : Env) (S : Store) : Prop :=
 match op, z, d with
 | .eql, some _, some d => d < X.n ∧ K (e.put d (.bool b)) S
 | .neq, some _, some d => d < X.n ∧ K (e.put d (.bool !b)) S
 | _, _, _ => False

def vCallF (C : Ctx) (X : Fx) (o : Oper) (c : Call) (f : FuncId) (K : Env → Store → Prop) (e : Env) (S : Store) : Prop :=
 if dstOk X o.dst && (!mvd X o.dst || apart c.args.toList) then PCalls C.P f (cargs C (mvd X o.dst) c.args.toList c.argTypes.toList e) S (retK K (afterCall (mvd X o.dst) c.args.toList e) o.dst) else False
def vCall (C : Ctx) (X : Fx) (o : Oper) (c : Call) (K : Env → Store → Prop) (e : Env) (S : Store) : Prop :=
 match c.callee with
 | .builtin .append => vAppend C X c.args.toList c.argTypes o.dst K e S
 | .builtin .len => (match c.args.toList with
  | [x] => vLenO X o.dst K e S ((c.argTypes[0]?).bind (mapS C.P)) (pop C o e) (ev x e)
  | _ => vPut X o.dst (pop C o e) K e S)
 | .builtin .delete => (match c.args.toList with
  | [x, y] => vDlO K e S o.dst ((c.argTypes[0]?).bind (mapS C.P)) (ev x e) (ev y e)
  | _ => False)
 | .builtin _ => vPut X o.dst (pop C o e) K e S
 | .value (.func f) => vCallF C X o c f K e S
 | .value (.tmp s) => (match e s with
  | .fn (.func f) [] [] => vCallF C X o c f K e S
  | .fn (.func f) [] (b :: cs) => if dstOk X o.dst && !mvd X o.dst then PCalls C.P f (cargs C false c.args.toList c.argTypes.toList e ++ (b :: cs).map PV.bare) S (retK K e o.dst) else False
  | _ => False)
 | _ => False

/-! ### texts gone through, maps of one's own -/
def vRange (C : Ctx) (X : Fx) (t : TypeId) (p : PV) (d : Option Nat) (K : Env → Store → Prop) (e : Env) (S : Store) : Prop :=
 match C.T t, p, d with
 | some ⟨.str, _, _, _⟩, .str s, some d => d < X.n ∧ ∀ b : Nat, K (e.put d (.siter b s 0)) S
 | _, .mref id, some d => vRgM X d K e S id (mapS C.P t) (mapAt S id)
 | _, _, _ => False
def vNext (X : Fx) (x : Operand) (d : Option Nat) (K : Env → Store → Prop) (e : Env) (S : Store) : Prop :=
 match x, d with
 | .tmp s, some d => (match e s with
  | .siter b str pos => (d < X.n ∧ s < X.n ∧ d ≠ s) ∧ (if pos < str.size then K ((e.put s (.siter b str (pos + (Utf8.decode str pos).2))).put d (.tup [.bool true, .int .i64 pos, .int .i32 (Utf8.decode str pos).1])) S else K (e.put d (.tup [.bool false])) S)
  | _ => False)
 | _, _ => False
def vMakeMap (X : Fx) (d : Option Nat) (K : Env → Store → Prop) (e : Env) (S : Store) : Prop :=
 match d with
 | some d => d < X.n ∧ if X.vars d then ∀ id, S id = none → K (e.put d (.mref id)) (S.set id (some [.mcon 0 [] []])) else ∀ b : Nat, K (e.put d (.mapo b [])) S
 | none => False
def ofVal : Value → PV
 | .bool b => .bool b
 | .int k n => .int k n
 | .string s => .str s
 | _ => .undef
def valOf : PV → Option Value
 | .bool b => some (.bool b)
 | .int k n => some (.int k n)
 | .str s => some (.string s)
 | _ => none
def lookS (k : ByteArray) : List (ByteArray × Value) → Option Value
 | [] => none
 | p :: L => if k == p.1 then some p.2 else lookS k L
def updS (k : ByteArray) (v : Value) : List (ByteArray × Value) → List (ByteArray × Value)
 | [] => [(k, v)]
 | p :: L => if k == p.1 then (p.1, v) :: L else p :: updS k v L
def lkV (ok : Bool) (z : Value) (o : Option Value) : PV := if ok then .tup [ofVal (o.getD z), .bool o.isSome] else ofVal (o.getD z)
/-- A slot has the map that stands there. -/
def vOwn (X : Fx) (e : Env) (b : Nat) (F : Nat → List (ByteArray × Value) → Prop) : Prop := ∃ t L, t < X.n ∧ e t = .mapo b L ∧ F t L
def vLookup (C : Ctx) (X : Fx) (t : TypeId) (p i : PV) (ok : Bool) (d : Option Nat) (K : Env → Store → Prop) (e : Env) (S : Store) : Prop :=
 match mapS C.P t, p, i, d with
 | some z, .mapr b, .str k, some d => d < X.n ∧ vOwn X e b fun _ L => K (e.put d (lkV ok z (lookS k L))) S
 | z, .mref id, i, d => vLkO X ok K e S z i d (mapAt S id)
 | z, .nilm, i, d => vLkO X ok K e S z i d (some (0, [], []))
 | _, _, _, _ => False
def vMapUpd (C : Ctx) (X : Fx) (t : TypeId) (p i : PV) (v : Option Value) (pv : PV) (d : Option Nat) (K : Env → Store → Prop) (e : Env) (S : Store) : Prop :=
 match mapS C.P t, p, i, v, d with
 | some _, .mapr b, .str k, some u, none => vOwn X e b fun s L => K (e.put s (.mapo b (updS k u L))) S
 | z, .mref id, i, _, d => vMuO X K e S id z i pv d (mapAt S id)
 | _, _, _, _, _ => False

/-- Two plain values that may stand for one and the same. -/
def Alike (x y : PV) : Prop := ∃ g w rv, Rel g w x rv ∧ Rel g w y rv

/-- Is a slice nil? Where there are no rows, nobody knows. -/
def vSame (C : Ctx) (X : Fx) (op : BinOp) (z : Bool) (ti : Option TI) (p : PV) (y : Operand) (d : Option Nat) (K : Env → Store → Prop) (e : Env) (S : Store) : Prop :=
 match op, ti, p, y, d with
 | .eql, some ⟨.slice _, _, _, _⟩, .sl _ _ rows, .const (.slice none 0 0), some d => if d < X.n then ∀ b : Bool, (b = true → rows = []) → K (e.put d (.bool b)) S else False
 | .neq, some ⟨.slice _, _, _, _⟩, .sl _ _ rows, .const (.slice none 0 0), some d => if d < X.n then ∀ b : Bool, (b = true → rows = []) → K (e.put d (.bool !b)) S else False
 | .eql, some ⟨.slice _, _, _, _⟩, .arr _ _ _ len _, .const (.slice none 0 0), some d => if d < X.n then ∀ b : Bool, (b = true → len = 0) → K (e.put d (.bool b)) S else False
 | .neq, some ⟨.slice _, _, _, _⟩, .arr _ _ _ len _, .const (.slice none 0 0), some d => if d < X.n then ∀ b : Bool, (b = true → len = 0) → K (e.put d (.bool !b)) S else False
 | .eql, some ⟨.ptr, _, _, _⟩, .np c, .tmp t, some d => (match e t with | .np c' => if d < X.n ∧ z = true ∧ c ≠ [] ∧ c' ≠ [] then ∀ b : Bool, (b = true → Alike (.np c) (.np c')) → K (e.put d (.bool b)) S else False | _ => False)
 | .neq, some ⟨.ptr, _, _, _⟩, .np c, .tmp t, some d => (match e t with | .np c' => if d < X.n ∧ z = true ∧ c ≠ [] ∧ c' ≠ [] then ∀ b : Bool, (b = true → Alike (.np c) (.np c')) → K (e.put d (.bool !b)) S else False | _ => False)
 | .eql, some ⟨.ptr, _, _, _⟩, .nq q r c, .tmp t, some d => (match e t with | .nq q' r' c' => if d < X.n ∧ z = true ∧ c ≠ [] ∧ c' ≠ [] then K (e.put d (.bool (decide (q = q' ∧ r = r')))) S else False | _ => False)
 | .neq, some ⟨.ptr, _, _, _⟩, .nq q r c, .tmp t, some d => (match e t with | .nq q' r' c' => if d < X.n ∧ z = true ∧ c ≠ [] ∧ c' ≠ [] then K (e.put d (.bool !(decide (q = q' ∧ r = r')))) S else False | _ => False)
 | _, _, _, _, _ => False

def vBin (C : Ctx) (X : Fx) (o : Oper) (op : BinOp) (t : TypeId) (x y : Operand) (K : Env → Store → Prop) (e : Env) (S : Store) : Prop :=
 match pop C o e with
 | some v => vPut X o.dst (some v) K e S
 | none => (match ev x e, y with
  | .mref _, .const (.map none) => vEqM X op false (mapS C.P t) o.dst K e S
  | .nilm, .const (.map none) => vEqM X op true (mapS C.P t) o.dst K e S
  | _, _ => vSame C X op (C.Z t) (C.T t) (ev x e) y o.dst K e S)

def vBuild (C : Ctx) (X : Fx) (o : Oper) (t : TypeId) (ps : Array (Nat × Operand)) (K : Env → Store → Prop) (e : Env) (S : Store) : Prop :=
 match o.dst with
 | some d => if X.mv d then (match C.T t with
   | some ⟨.struct fs, _, _, z⟩ => vPut X (some d) ((pfill (places fs) (nilsOf z) (ps.toList.map fun p => (p.1, ev p.2 e))).map .agg) K e S
   | _ => False) else vPut X (some d) (pop C o e) K e S
 | none => False

/-- make of an empty slice with room. -/
def vMkG (X : Fx) (d : Option Nat) (K : Env → Store → Prop) (e : Env) (S : Store) : Option TI → PV → PV → Prop
 | some te, .int _ m, .int _ n => (match d with
  | some d => (m = 0 ∧ d < X.n ∧ 0 ≤ n ∧ te.bytes * n.toNat ≤ capOf te.bytes ∧ n ≤ capZ te.bytes) ∧ K (e.put d (.sl .tail te.size [])) S
  | none => False)
 | _, _, _ => False
def vMkS (C : Ctx) (X : Fx) (d : Option Nat) (K : Env → Store → Prop) (e : Env) (S : Store) (l c : PV) : Option TI → Prop
 | some ⟨.slice el, _, _, _⟩ => vMkG X d K e S (C.T el) l c
 | _ => False
def vop (C : Ctx) (X : Fx) (o : Oper) (K : Env → Store → Prop) (e : Env) (S : Store) : Prop :=
 match o.op with
 | .alloc t => vAlloc C X t o.dst K e S
 | .box _ x => vBox C X o x o.dst K e S
 | .store t ad x => vStore C X t ad x o.dst K e S
 | .load t x => vLoad C X o t x K e S
 | .move x => vMove C X o x K e S
 | .assign x => vMove C X o x K e S
 | .call c => vCall C X o c K e S
 | .binOp op t x y _ => vBin C X o op t x y K e S
 | .build t ps => vBuild C X o t ps K e S
 | .range t x => vRange C X t (ev x e) o.dst K e S
 | .next x true => vNext X x o.dst K e S
 | .next x false => vNextM X x o.dst K e S
 | .entry x => vEntry X x o.dst K e S
 | .makeMap _ none => vMakeMap X o.dst K e S
 | .lookup t x i ok => vLookup C X t (ev x e) (ev i e) ok o.dst K e S
 | .mapUpdate t m k v => vMapUpd C X t (ev m e) (ev k e) (valOf (ev v e)) (ev v e) o.dst K e S
 | .makeSlice t l c => vMkS C X o.dst K e S (ev l e) (ev c e) (C.T t)
 | _ => vPut X o.dst (pop C o e) K e S

/-- The continuation in real memory. -/
def Goes (X : Fx) (g : Gh) (w : World) (a : Act) (K : Env → Store → Prop) (R : Act → World → Prop) : Prop :=
 ∀ e' S' g' w' (a' : Act), K e' S' → St X.n g' w' e' S' a'.tmps → a'.defers = a.defers → Fr g g' w w' → R a' w'

section
variable {C : Ctx} {X : Fx} {o : Oper} {g : Gh} {w : World} {a : Act} {e : Env} {S : Store} {K : Env → Store → Prop} {R : Act → World → Prop} {Q : Exit → Act → World → Prop}

theorem put_defers (a : Act) (d : Option Nat) (v : Value) : (a.put d v).defers = a.defers := by cases d <;> rfl
theorem put_tmps (a : Act) (d : Nat) (v : Value) : (a.put (some d) v).tmps = a.tmps.setIfInBounds d v := rfl

theorem vPut_sound {v : PV} {rv : Value} {w' : World} {g' : Gh} {d : Nat} (hd : o.dst = some d) (hdn : d < X.n) (hK : K (e.put d v) S) (h : St X.n g w e S a.tmps) (hrun : (execOp a.eval o).run C.P w = .ok (.value rv) w') (q : Quiet g g' w w') (ht : Top g' w' d v rv)
  (hR : Goes X g w a K R) : o.wp C.P a w R Q := by
 unfold Oper.wp
 rw [hrun, Oper.upon_value, hd]
 exact hR _ _ g' w' _ hK (by rw [put_tmps]; exact (h.quiet q).put hdn ht) (put_defers _ _ _) q.toFr

theorem vPop_sound (h : St X.n g w e S a.tmps) (hv : vPut X o.dst (pop C o e) K e S) (hR : Goes X g w a K R) : o.wp C.P a w R Q := by
 unfold vPut at hv
 split at hv
 ·rename_i d v hd hp
  split at hv
  ·rename_i hdn
   obtain ⟨rv, w', g', hrun, q, ht⟩ := pop_sound h hp
   exact vPut_sound hd hdn hv h hrun q (ht d) hR
  ·exact hv.elim
 ·exact hv.elim

/-- A slot's flag goes to another slot. -/
def Gh.pass (g : Gh) (s d : Nat) : Gh := { g with lab := fun b o => if g.lab b o = .slot s then .slot d else g.lab b o }
theorem Fr.pass (g : Gh) (w : World) (s d : Nat) : Fr g (g.pass s d) w w where
 os := rfl
 tape := rfl
 output := rfl
 size := Nat.le_refl _
 frozen b o hl := by simp [Gh.pass, hl]
 foreign b o hl := by simp [Gh.pass, hl]
 own b o hb hl := by
  simp only [Gh.pass] at hl
  split at hl
  ·rename_i hs; rw [hs]; trivial
  ·exact hl
 kept _ _ _ _ := rfl
 mark _ _ _ := rfl
 some _ _ h := h
 block _ _ _ := rfl
 loc _ _ := rfl
 nxt := Nat.le_refl _
 knd _ _ := rfl

theorem Tail.pass {t s d : Nat} {v : PV} {rv : Value} (hne : t ≠ s) (h : Tail g w t v rv) : Tail (g.pass s d) w t v rv := by
 have key : ∀ b o, g.lab b o = .slot t → (g.pass s d).lab b o = .slot t := by
  intro b o hl
  simp only [Gh.pass, hl]
  rw [if_neg (by simpa using hne)]
 unfold Tail at *
 split at h
 ·exact ⟨h.1, fun k h1 h2 => ⟨key _ _ (h.2 k h1 h2).1, (h.2 k h1 h2).2⟩⟩
 ·exact ⟨h.1, fun k h1 h2 => ⟨key _ _ (h.2 k h1 h2).1, (h.2 k h1 h2).2⟩⟩
 ·exact ⟨fun o => key _ _ (h.1 o), h.2⟩
 ·exact ⟨fun o => key _ _ (h.1 o), h.2⟩
 ·exact ⟨fun o => key _ _ (h.1 o), h.2⟩
 ·exact ⟨h.1, fun k h1 => ⟨key _ _ (h.2 k h1).1, (h.2 k h1).2⟩⟩
 ·trivial
theorem Tail.passed {s d : Nat} {v : PV} {rv : Value} (h : Tail g w s v rv) : Tail (g.pass s d) w d v rv := by
 have key : ∀ b o, g.lab b o = .slot s → (g.pass s d).lab b o = .slot d := by
  intro b o hl
  simp [Gh.pass, hl]
 unfold Tail at *
 split at h
 ·exact ⟨h.1, fun k h1 h2 => ⟨key _ _ (h.2 k h1 h2).1, (h.2 k h1 h2).2⟩⟩
 ·exact ⟨h.1, fun k h1 h2 => ⟨key _ _ (h.2 k h1 h2).1, (h.2 k h1 h2).2⟩⟩
 ·exact ⟨fun o => key _ _ (h.1 o), h.2⟩
 ·exact ⟨fun o => key _ _ (h.1 o), h.2⟩
 ·exact ⟨fun o => key _ _ (h.1 o), h.2⟩
 ·exact ⟨h.1, fun k h1 => ⟨key _ _ (h.2 k h1).1, (h.2 k h1).2⟩⟩
 ·trivial

theorem ObjOk.pass {s d id : Nat} {cells : List PV} (h : ObjOk g w id cells) : ObjOk (g.pass s d) w id cells where
 lt := h.lt
 mp hn := (h.mp hn).map rfl (fun b o hl => by simp only [Gh.pass]; rw [if_neg (by rw [hl]; simp)]; exact hl) (fun _ _ _ _ hh => hh) (fun _ _ hr => hr.mono (Fr.pass g w s d))
 cell hn k v hk := by
  obtain ⟨h1, h2, rv, h3, h4, h5, h6⟩ := h.cell hn k v hk
  refine ⟨by simp only [Gh.pass] at h1 ⊢; rw [if_neg (by rw [h1]; simp)]; exact h1, h2, rv, h3, h4, h5.mono (Fr.pass g w s d), h6.map fun b o ⟨c1, c2⟩ => ⟨by simp only [Gh.pass]; rw [if_neg (by rw [c1]; simp)]; exact c1, c2⟩⟩

theorem St.pass (h : St X.n g w e S a.tmps) {s d : Nat} (hs : s < X.n) (hd : d < X.n) (hne : s ≠ d) :
  St X.n (g.pass s d) w ((e.put s (e s).bare).put d (e s)) S (a.tmps.setIfInBounds d (a.tmps.getD s Go.undef)) where
 size := by simp [h.size]
 slots t ht := by
  by_cases e1 : t = d
  ·subst e1
   rw [getD_set_self _ _ _ _ (by rw [h.size]; exact ht)]
   have := h.slots s hs
   simp only [Env.put, if_true]
   exact ⟨this.rel.mono (Fr.pass g w s t), this.tail.passed⟩
  ·rw [getD_set_ne _ _ _ _ _ e1]
   simp only [Env.put, if_neg e1]
   by_cases e2 : t = s
   ·subst e2
    rw [if_pos rfl]
    have := h.slots t ht
    exact ⟨this.rel.bare.mono (Fr.pass g w t d), Tail.bare _ _ _ _ _⟩
   ·rw [if_neg e2]
    have := h.slots t ht
    exact ⟨this.rel.mono (Fr.pass g w s d), this.tail.pass e2⟩
 beyond t ht := by
  simp only [Env.put]
  rw [if_neg (by omega), if_neg (by omega)]
  exact h.beyond t ht
 objs id cells hi := (h.objs id cells hi).pass
 new b o hb := by
  have := h.new b o hb
  simp [Gh.pass, this]

/-- A new object without cells. -/
def Gh.one (g : Gh) (b o : Nat) : Gh := { lab := g.lab, loc := fun id => if id = g.nxt then (b, o) else g.loc id, nxt := g.nxt + 1, knd := fun id => if id = g.nxt then false else g.knd id }
theorem Fr.one (g : Gh) (w : World) (b o : Nat) : Fr g (g.one b o) w w where
 os := rfl
 tape := rfl
 output := rfl
 size := Nat.le_refl _
 frozen _ _ h := h
 foreign _ _ h := h
 own _ _ _ h := h
 kept _ _ _ _ := rfl
 mark _ _ _ := rfl
 some _ _ h := h
 block _ _ _ := rfl
 loc id hi := by simp only [Gh.one]; rw [if_neg (by omega)]
 nxt := by simp [Gh.one]
 knd id hi := by simp only [Gh.one]; rw [if_neg (by omega)]
theorem Quiet.one (hn : ∀ b o, w.heap.size ≤ b → g.lab b o = .free) (b o : Nat) : Quiet g (g.one b o) w w := ⟨Fr.one g w b o, fun _ _ _ _ => ⟨rfl, rfl⟩, hn, fun _ _ => rfl⟩
theorem St.nxtNone {n : Nat} {tmps : Array Value} (h : St n g w e S tmps) : S g.nxt = none := by
 cases hs : S g.nxt with
 | none => rfl
 | some cells => exact absurd (h.objs _ _ hs).lt (Nat.lt_irrefl _)
theorem St.one {n : Nat} {tmps : Array Value} (h : St n g w e S tmps) (b o : Nat) : St n (g.one b o) w e (S.set g.nxt (some [])) tmps :=
 have h1 := h.quiet (Quiet.one h.new b o)
 ⟨h1.size, h1.slots, h1.beyond, fun id cells hi => by
   simp only [Store.set] at hi
   split at hi
   ·rename_i heq
    subst heq
    injection hi with hi
    subst hi
    exact ⟨by simp [Gh.one], by simp, fun hn => by simp [Gh.one] at hn⟩
   ·exact (h.objs id cells hi).quiet (Quiet.one h.new b o), h1.new⟩

theorem vMove_sound {x : Operand} (ho : o.op = .move x ∨ o.op = .assign x) (h : St X.n g w e S a.tmps) (hv : vMove C X o x K e S) (hR : Goes X g w a K R) : o.wp C.P a w R Q := by
 unfold vMove at hv
 split at hv
 ·rename_i d s hd
  have hrun : (execOp a.eval o).run C.P w = .ok (.value (a.eval (.tmp s))) w := by
   rcases ho with ho | ho <;> (simp only [execOp, ho]; rfl)
  split at hv
  ·split at hv
   ·rename_i hc
    unfold Oper.wp
    rw [hrun, Oper.upon_value, hd]
    exact hR _ _ _ _ _ hv (by rw [put_tmps]; exact h.pass hc.2.1 hc.1 hc.2.2) (put_defers _ _ _) (Fr.pass g w s d)
   ·exact hv.elim
  ·split at hv
   ·rename_i hdn
    exact vPut_sound hd hdn hv h hrun (Quiet.refl h.new) (h.top s).bare hR
   ·exact hv.elim
 ·rename_i d hd
  have hrun : (execOp a.eval o).run C.P w = .ok (.value (.slice none 0 0)) w := by
   rcases ho with ho | ho <;> (simp only [execOp, ho]; rfl)
  split at hv
  ·split at hv
   ·rename_i sz hn
    split at hv
    ·rename_i hdn
     have hS : S g.nxt = none := h.nxtNone
     unfold Oper.wp
     rw [hrun, Oper.upon_value, hd]
     refine hR _ _ (g.one 0 0) _ _ (hv g.nxt hS) ?_ (put_defers _ _ _) (Fr.one g w 0 0)
     rw [put_tmps]
     exact (h.one 0 0).put hdn ⟨.arr0 _ _ _ _ _ _ (fun _ => rfl), by simp [Tail]⟩
    ·exact hv.elim
   ·exact hv.elim
  ·exact vPop_sound h hv hR
 ·exact vPop_sound h hv hR
end
end Go.VL
