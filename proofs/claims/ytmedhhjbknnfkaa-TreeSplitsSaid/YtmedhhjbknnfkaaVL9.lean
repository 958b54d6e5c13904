/- VL, part 9: what owns changes: new variables, stores, append, calls. -/
import Derived.Test.YtmedhhjbknnfkaaVL8
set_option linter.unusedVariables false
set_option linter.unusedSimpArgs false
namespace Go.VL
open Go

/-- Only frozen cells, and where objects lie, count for what a value means. -/
theorem Rel.same {g g' : Gh} {w w' : World} (hl : ∀ b o, g.lab b o = .frozen → g'.lab b o = .frozen) (hc : ∀ b o v, g.lab b o = .frozen → w.cell? ⟨b, o, none⟩ = some v → w'.cell? ⟨b, o, none⟩ = some v)
    (ho : ∀ id, id < g.nxt → g'.loc id = g.loc id) (hn : g.nxt ≤ g'.nxt) (hm : ∀ b, NoMark w b → NoMark w' b) {v : PV} {rv : Value} (h : Rel g w v rv) : Rel g' w' v rv := by
  induction h with
  | undef v => exact .undef v
  | bool b => exact .bool b
  | int k n => exact .int k n
  | str s => exact .str s
  | nilp => exact .nilp
  | ip f h _ ih => exact .ip f (fun k v hk => ⟨hl _ _ (h k v hk).1, hc _ _ _ (h k v hk).1 (h k v hk).2.1, (h k v hk).2.2⟩) ih
  | @ref id off hi =>
    rw [← ho id hi]
    exact .ref (Nat.lt_of_lt_of_le hi hn)
  | fresh a => exact .fresh a
  | slnil f sz => exact .slnil f sz
  | sl fv hcp hle h _ hs ih => exact .sl fv hcp hle (fun j c k v hj hk => ⟨hl _ _ (h j c k v hj hk).1, hc _ _ _ (h j c k v hj hk).1 (h j c k v hj hk).2.1, (h j c k v hj hk).2.2⟩) ih
  | agg hl h1 _ ih => exact .agg hl h1 ih
  | tup hl _ ih => exact .tup hl ih
  | fn hl hm _ _ ih1 ih2 => exact .fn hl hm ih1 ih2
  | nilf => exact .nilf
  | ifc t _ ih => exact .ifc t ih
  | nili => exact .nili
  | nils => exact .nils
  | arr0 f id off sz a cap h => exact .arr0 f id off sz a cap h
  | arr f hi hcap =>
    rw [← ho _ hi]
    exact .arr f (Nat.lt_of_lt_of_le hi hn) hcap
  | np f hb h _ ih => exact .np f (hm _ hb) (fun k v hk => ⟨hl _ _ (h k v hk).1, hc _ _ _ (h k v hk).1 (h k v hk).2.1, (h k v hk).2.2⟩) ih

def argEnv (args : List PV) : Env := fun t => args.getD t .undef

def Callable (P : Program) (f : FuncId) : Prop := ∃ fn, P.funcs[f]? = some fn ∧ (fn.name == "runtime.NumGoroutine") = false ∧ fn.body.isNone = false

def PCalls (P : Program) (f : FuncId) (args : List PV) (S : Store) (K : PV → Store → Prop) : Prop :=
  Callable P f ∧ ∀ (g : Gh) (w : World) (rargs : Array Value), St args.length g w (argEnv args) S rargs →
    Calls P f rargs w fun en w' => ∃ rv v S' g', en = .returned rv ∧ K v S' ∧ Fr g g' w w' ∧ Top g' w' 0 v rv ∧ (∀ id cells, S' id = some cells → ObjOk g' w' id cells) ∧ ∀ b o, w'.heap.size ≤ b → g'.lab b o = .free

def retK (K : Env → Store → Prop) (e : Env) (d : Option Nat) : PV → Store → Prop := fun v S => K (e.putO d v) S

/-- The arguments of a call; mv: they go with their flags. -/
def carg (C : Ctx) (mv : Bool) (t : TypeId) (x : Operand) (e : Env) : PV :=
  match mv, x with
  | true, .tmp s => e s
  | true, .const (.slice none 0 0) => .nils
  | _, x => opd C t x e
def cargs (C : Ctx) (mv : Bool) : List Operand → List TypeId → Env → List PV
  | [], _, _ => []
  | x :: xs, t :: ts, e => carg C mv t x e :: cargs C mv xs ts e
  | x :: xs, [], e => carg C mv 0 x e :: cargs C mv xs [] e
def argPos : List Operand → Nat → Option Nat
  | [], _ => none
  | .tmp s :: xs, t => if s = t then some 0 else (argPos xs t).map (· + 1)
  | _ :: xs, t => (argPos xs t).map (· + 1)
/-- No slot stands twice. -/
def apart : List Operand → Bool
  | [] => true
  | .tmp s :: xs => (argPos xs s).isNone && apart xs
  | _ :: xs => apart xs
def afterCall (mv : Bool) (xs : List Operand) (e : Env) : Env := if mv then (fun t => if (argPos xs t).isSome then (e t).bare else e t) else e
def mvd (X : Fx) : Option Nat → Bool
  | some d => X.mv d
  | none => false

def pappendTo (C : Ctx) (te : TI) (tx : TypeId) (sz : Nat) (rows : List (List PV)) (x : PV) : Option (Nat × List (List PV) × List (List PV)) :=
  match C.T tx with
  | some ti => (match ti.k, x with
    | .slice _, .sl _ sz2 more => if te.size = sz ∧ sz = sz2 ∧ 0 < sz ∧ (rows.length + more.length) * te.bytes ≤ 140737488355328 ∧ rows.length + more.length ≤ 140737488355328 then some (sz, rows, more) else none
    | .str, .str b => if te.size = sz ∧ sz = 1 ∧ (rows.length + b.size) * te.bytes ≤ 140737488355328 ∧ rows.length + b.size ≤ 140737488355328 then some (1, rows, b.data.toList.map fun c => [.int .u8 (c.toNat : Int)]) else none
    | _, _ => none)
  | none => none

def pappend (C : Ctx) (ts : List TypeId) (s x : PV) : Option (Nat × List (List PV) × List (List PV)) :=
  match ts with
  | [t, tx] => (match C.T t with
    | some ⟨.slice el, _, _, _⟩ => (match C.T el with
      | some te => (match s with
        | .sl .tail sz rows => pappendTo C te tx sz rows x
        | _ => none)
      | none => none)
    | _ => none)
  | _ => none

/-- An array of one's own, as rows. -/
def arows (cells : List PV) (off len sz : Nat) : List (List PV) := (List.range len).map fun j => ((cells.drop (off + j * sz)).take sz).map PV.bare
/-- A value, with an array of one's own as a slice of what stands there. -/
def vw (S : Store) (v : PV) : PV :=
  match v with
  | .arr _ id off len sz => (match S id with
    | some cells => if off + len * sz ≤ cells.length then .sl .no sz (arows cells off len sz) else .undef
    | none => .undef)
  | v => v
def bareAll (rows : List (List PV)) : List PV := rows.flatten.map PV.bare

def dstOk (X : Fx) : Option Nat → Bool
  | some d => decide (d < X.n)
  | none => true

def vPut (X : Fx) (d : Option Nat) (v : Option PV) (K : Env → Store → Prop) (e : Env) (S : Store) : Prop :=
  match d, v with
  | some d, some v => if d < X.n then K (e.put d v) S else False
  | _, _ => False

def vAlloc (C : Ctx) (X : Fx) (t : TypeId) (d : Option Nat) (K : Env → Store → Prop) (e : Env) (S : Store) : Prop :=
  match d, C.T t with
  | some d, some ti => if d < X.n then (if X.vars d then ∀ id, S id = none → K (e.put d (.ref id 0)) (S.set id (some (ti.zero.map PV.opn))) else K (e.put d (.fresh ti.size)) S) else False
  | _, _ => False

def vBox (C : Ctx) (X : Fx) (o : Oper) (x : Operand) (d : Option Nat) (K : Env → Store → Prop) (e : Env) (S : Store) : Prop :=
  match d with
  | some d => if X.vars d then (match pcells (ev x e) with | some cs => if d < X.n then ∀ id, S id = none → K (e.put d (.ref id 0)) (S.set id (some (cs.map PV.bare))) else False | none => False) else if X.mv d then (match pcells (ev x e) with | some cs => if d < X.n then K (e.put d (.np cs)) S else False | none => False) else vPut X (some d) (pop C o e) K e S
  | none => False

def isSl : PV → Bool
  | .sl _ _ _ => true
  | _ => false

def openN1 : PV → PV → PV
  | .sl _ sz [], .nils => .sl .tail sz []
  | _, c => c.bare
/-- What is put into an object, where nil slices have room for themselves. -/
def openN : List PV → List PV → List PV
  | z :: zs, c :: cs => openN1 z c :: openN zs cs
  | [], cs => cs.map PV.bare
  | _, [] => []

/-- A value put into an object: with its flag, where its slot is said to give it. -/
def vKeep (X : Fx) (x : Operand) (K : Env → Store → Prop) (e : Env) (S : Store) (id : Nat) (cells : List PV) (off : Nat) (cs zs : List PV) : Prop :=
  match x with
  | .tmp s => if X.mv s = true ∧ s < X.n ∧ isSl (e s) = true then K (e.put s (e s).bare) (S.set id (some (psplice cells off [e s]))) else if X.mv s = true then K e (S.set id (some (psplice cells off (openN zs cs)))) else K e (S.set id (some (psplice cells off (cs.map PV.bare))))
  | _ => K e (S.set id (some (psplice cells off (cs.map PV.bare))))

def vStore (C : Ctx) (X : Fx) (t : TypeId) (ad x : Operand) (d : Option Nat) (K : Env → Store → Prop) (e : Env) (S : Store) : Prop :=
  match d, ad, C.T t, pcells (opd C t x e) with
  | none, .tmp s, some ti, some cs => (match e s with
    | .fresh n => if cs.length = n ∧ ti.size = n ∧ s < X.n then K (e.put s (if X.mv s then .np cs else .ip cs 0)) S else False
    | .ref id off => (match S id with
      | some cells => if cs.length = ti.size ∧ off + cs.length ≤ cells.length then vKeep X x K e S id cells off cs ti.zero else False
      | none => False)
    | _ => False)
  | _, _, _, _ => False

/-- A value taken out of an object: with its flag, where the slot is said to take it. -/
def vTake (X : Fx) (ti : TI) (cells : List PV) (id off : Nat) (p : Option PV) (K : Env → Store → Prop) (e : Env) (S : Store) : Option Nat → Prop
  | some d => if X.mv d = true then (match ti.k.agg, cells[off]? with
      | false, some v => if d < X.n ∧ isSl v = true then K (e.put d v) (S.set id (some (psplice cells off [v.bare]))) else False
      | _, _ => False) else vPut X (some d) p K e S
  | none => False

def vLoad (C : Ctx) (X : Fx) (o : Oper) (t : TypeId) (x : Operand) (K : Env → Store → Prop) (e : Env) (S : Store) : Prop :=
  match ev x e, C.T t with
  | .ref id off, some ti => (match S id with
    | some cells => vTake X ti cells id off (pload ti (cells.map PV.bare) off) K e S o.dst
    | none => False)
  | _, _ => vPut X o.dst (pop C o e) K e S

def vMove (C : Ctx) (X : Fx) (o : Oper) (x : Operand) (K : Env → Store → Prop) (e : Env) (S : Store) : Prop :=
  match o.dst, x with
  | some d, .tmp s => if X.mv d then (if d < X.n ∧ s < X.n ∧ s ≠ d then K ((e.put s (e s).bare).put d (e s)) S else False) else (if d < X.n then K (e.put d (e s).bare) S else False)
  | some d, .const (.slice none 0 0) => if X.vars d then (match nilOf C o.type with
      | .sl .tail sz [] => if d < X.n then ∀ id, S id = none → K (e.put d (.arr .tail id 0 0 sz)) (S.set id (some [])) else False
      | _ => False) else vPut X o.dst (pop C o e) K e S
  | _, _ => vPut X o.dst (pop C o e) K e S

/-- append to an array of one's own. -/
def vAppArr (C : Ctx) (X : Fx) (s : Nat) (ts : List TypeId) (x : PV) (d : Nat) (K : Env → Store → Prop) (e : Env) (S : Store) : PV → Prop
  | .arr .tail id 0 len sz => (match S id, pappend C ts (.sl .tail sz (List.replicate len [])) x with
    | some cells, some (_, _, more) => if d < X.n ∧ s < X.n ∧ cells.length = len * sz then
        ∀ id', (S.set id none) id' = none → K ((e.put s (e s).bare).put d (.arr .tail id' 0 (len + more.length) sz)) ((S.set id none).set id' (some (cells.map PV.bare ++ bareAll more))) else False
    | _, _ => False)
  | .sl .tail sz [] => (match pappend C ts (.sl .tail sz []) x with
    | some (_, _, more) => if d < X.n ∧ s < X.n then
        ∀ id', S id' = none → K ((e.put s (e s).bare).put d (.arr .tail id' 0 more.length sz)) (S.set id' (some (bareAll more))) else False
    | none => False)
  | _ => False

def vAppend (C : Ctx) (X : Fx) (xs : List Operand) (ts : Array TypeId) (d : Option Nat) (K : Env → Store → Prop) (e : Env) (S : Store) : Prop :=
  match d, xs with
  | some d, [.tmp s, x] => if X.vars d then vAppArr C X s ts.toList (vw S (ev x e)) d K e S (e s) else (match pappend C ts.toList (e s) (vw S (ev x e)) with
    | some (sz, rows, more) => if d < X.n ∧ s < X.n then K ((e.put s (e s).bare).put d (.sl .tail sz (rows ++ more))) S else False
    | none => False)
  | some d, [.const (.slice none 0 0), x] => (match pappend C ts.toList ((ts[0]?).elim .undef (nilOf C)) (vw S (ev x e)) with
    | some (sz, rows, more) => if d < X.n then K (e.put d (.sl .tail sz (rows ++ more))) S else False
    | none => False)
  | _, _ => False

def vCall (C : Ctx) (X : Fx) (o : Oper) (c : Call) (K : Env → Store → Prop) (e : Env) (S : Store) : Prop :=
  match c.callee with
  | .builtin .append => vAppend C X c.args.toList c.argTypes o.dst K e S
  | .builtin _ => vPut X o.dst (pop C o e) K e S
  | .value (.func f) => if dstOk X o.dst && (!mvd X o.dst || apart c.args.toList) then PCalls C.P f (cargs C (mvd X o.dst) c.args.toList c.argTypes.toList e) S (retK K (afterCall (mvd X o.dst) c.args.toList e) o.dst) else False
  | _ => False

/-- Two plain values that may stand for one and the same. -/
def Alike (x y : PV) : Prop := ∃ g w rv, Rel g w x rv ∧ Rel g w y rv

/-- Is a slice nil? Where there are no rows, nobody knows. -/
def vSame (C : Ctx) (X : Fx) (op : BinOp) (z : Bool) (ti : Option TI) (p : PV) (y : Operand) (d : Option Nat) (K : Env → Store → Prop) (e : Env) (S : Store) : Prop :=
  match op, ti, p, y, d with
  | .eql, some ⟨.slice _, _, _, _⟩, .sl _ _ rows, .const (.slice none 0 0), some d => if d < X.n then ∀ b : Bool, (b = true → rows = []) → K (e.put d (.bool b)) S else False
  | .neq, some ⟨.slice _, _, _, _⟩, .sl _ _ rows, .const (.slice none 0 0), some d => if d < X.n then ∀ b : Bool, (b = true → rows = []) → K (e.put d (.bool !b)) S else False
  | .eql, some ⟨.slice _, _, _, _⟩, .arr _ _ _ len _, .const (.slice none 0 0), some d => if d < X.n then ∀ b : Bool, (b = true → len = 0) → K (e.put d (.bool b)) S else False
  | .neq, some ⟨.slice _, _, _, _⟩, .arr _ _ _ len _, .const (.slice none 0 0), some d => if d < X.n then ∀ b : Bool, (b = true → len = 0) → K (e.put d (.bool !b)) S else False
  | .eql, some ⟨.ptr, _, _, _⟩, .np c, .tmp t, some d => (match e t with | .np c' => if d < X.n ∧ z = true ∧ c ≠ [] ∧ c' ≠ [] then ∀ b : Bool, (b = true → Alike (.np c) (.np c')) → K (e.put d (.bool b)) S else False | _ => False)
  | .neq, some ⟨.ptr, _, _, _⟩, .np c, .tmp t, some d => (match e t with | .np c' => if d < X.n ∧ z = true ∧ c ≠ [] ∧ c' ≠ [] then ∀ b : Bool, (b = true → Alike (.np c) (.np c')) → K (e.put d (.bool !b)) S else False | _ => False)
  | _, _, _, _, _ => False

def vBin (C : Ctx) (X : Fx) (o : Oper) (op : BinOp) (t : TypeId) (x y : Operand) (K : Env → Store → Prop) (e : Env) (S : Store) : Prop :=
  match pop C o e with
  | some v => vPut X o.dst (some v) K e S
  | none => vSame C X op (C.Z t) (C.T t) (ev x e) y o.dst K e S

def vBuild (C : Ctx) (X : Fx) (o : Oper) (t : TypeId) (ps : Array (Nat × Operand)) (K : Env → Store → Prop) (e : Env) (S : Store) : Prop :=
  match o.dst with
  | some d => if X.mv d then (match C.T t with
      | some ⟨.struct fs, _, _, z⟩ => vPut X (some d) ((pfill (places fs) (nilsOf z) (ps.toList.map fun p => (p.1, ev p.2 e))).map .agg) K e S
      | _ => False) else vPut X (some d) (pop C o e) K e S
  | none => False

def vop (C : Ctx) (X : Fx) (o : Oper) (K : Env → Store → Prop) (e : Env) (S : Store) : Prop :=
  match o.op with
  | .alloc t => vAlloc C X t o.dst K e S
  | .box _ x => vBox C X o x o.dst K e S
  | .store t ad x => vStore C X t ad x o.dst K e S
  | .load t x => vLoad C X o t x K e S
  | .move x => vMove C X o x K e S
  | .assign x => vMove C X o x K e S
  | .call c => vCall C X o c K e S
  | .binOp op t x y _ => vBin C X o op t x y K e S
  | .build t ps => vBuild C X o t ps K e S
  | _ => vPut X o.dst (pop C o e) K e S

/-- The continuation in real memory. -/
def Goes (X : Fx) (g : Gh) (w : World) (a : Act) (K : Env → Store → Prop) (R : Act → World → Prop) : Prop :=
  ∀ e' S' g' w' (a' : Act), K e' S' → St X.n g' w' e' S' a'.tmps → a'.defers = a.defers → Fr g g' w w' → R a' w'

section
variable {C : Ctx} {X : Fx} {o : Oper} {g : Gh} {w : World} {a : Act} {e : Env} {S : Store} {K : Env → Store → Prop} {R : Act → World → Prop} {Q : Exit → Act → World → Prop}

theorem put_defers (a : Act) (d : Option Nat) (v : Value) : (a.put d v).defers = a.defers := by cases d <;> rfl
theorem put_tmps (a : Act) (d : Nat) (v : Value) : (a.put (some d) v).tmps = a.tmps.setIfInBounds d v := rfl

theorem vPut_sound {v : PV} {rv : Value} {w' : World} {g' : Gh} {d : Nat} (hd : o.dst = some d) (hdn : d < X.n) (hK : K (e.put d v) S) (h : St X.n g w e S a.tmps) (hrun : (execOp a.eval o).run C.P w = .ok (.value rv) w') (q : Quiet g g' w w') (ht : Top g' w' d v rv)
    (hR : Goes X g w a K R) : o.wp C.P a w R Q := by
  unfold Oper.wp
  rw [hrun, Oper.upon_value, hd]
  exact hR _ _ g' w' _ hK (by rw [put_tmps]; exact (h.quiet q).put hdn ht) (put_defers _ _ _) q.toFr

theorem vPop_sound (h : St X.n g w e S a.tmps) (hv : vPut X o.dst (pop C o e) K e S) (hR : Goes X g w a K R) : o.wp C.P a w R Q := by
  unfold vPut at hv
  split at hv
  · rename_i d v hd hp
    split at hv
    · rename_i hdn
      obtain ⟨rv, w', g', hrun, q, ht⟩ := pop_sound h hp
      exact vPut_sound hd hdn hv h hrun q (ht d) hR
    · exact hv.elim
  · exact hv.elim

/-- A slot's flag goes to another slot. -/
def Gh.pass (g : Gh) (s d : Nat) : Gh := { g with lab := fun b o => if g.lab b o = .slot s then .slot d else g.lab b o }
theorem Fr.pass (g : Gh) (w : World) (s d : Nat) : Fr g (g.pass s d) w w where
  os := rfl
  tape := rfl
  output := rfl
  size := Nat.le_refl _
  frozen b o hl := by simp [Gh.pass, hl]
  foreign b o hl := by simp [Gh.pass, hl]
  own b o hb hl := by
    simp only [Gh.pass] at hl
    split at hl
    · rename_i hs; rw [hs]; trivial
    · exact hl
  kept _ _ _ _ := rfl
  mark _ _ _ := rfl
  some _ _ h := h
  block _ _ _ := rfl
  loc _ _ := rfl
  nxt := Nat.le_refl _

theorem Tail.pass {t s d : Nat} {v : PV} {rv : Value} (hne : t ≠ s) (h : Tail g w t v rv) : Tail (g.pass s d) w t v rv := by
  have key : ∀ b o, g.lab b o = .slot t → (g.pass s d).lab b o = .slot t := by
    intro b o hl
    simp only [Gh.pass, hl]
    rw [if_neg (by simpa using hne)]
  unfold Tail at *
  split at h
  · exact ⟨h.1, fun k h1 h2 => ⟨key _ _ (h.2 k h1 h2).1, (h.2 k h1 h2).2⟩⟩
  · exact ⟨h.1, fun k h1 h2 => ⟨key _ _ (h.2 k h1 h2).1, (h.2 k h1 h2).2⟩⟩
  · exact ⟨h.1, fun k h1 => ⟨key _ _ (h.2 k h1).1, (h.2 k h1).2⟩⟩
  · trivial
theorem Tail.passed {s d : Nat} {v : PV} {rv : Value} (h : Tail g w s v rv) : Tail (g.pass s d) w d v rv := by
  have key : ∀ b o, g.lab b o = .slot s → (g.pass s d).lab b o = .slot d := by
    intro b o hl
    simp [Gh.pass, hl]
  unfold Tail at *
  split at h
  · exact ⟨h.1, fun k h1 h2 => ⟨key _ _ (h.2 k h1 h2).1, (h.2 k h1 h2).2⟩⟩
  · exact ⟨h.1, fun k h1 h2 => ⟨key _ _ (h.2 k h1 h2).1, (h.2 k h1 h2).2⟩⟩
  · exact ⟨h.1, fun k h1 => ⟨key _ _ (h.2 k h1).1, (h.2 k h1).2⟩⟩
  · trivial

theorem ObjOk.pass {s d id : Nat} {cells : List PV} (h : ObjOk g w id cells) : ObjOk (g.pass s d) w id cells where
  lt := h.lt
  cell k v hk := by
    obtain ⟨h1, h2, rv, h3, h4, h5, h6⟩ := h.cell k v hk
    refine ⟨by simp only [Gh.pass] at h1 ⊢; rw [if_neg (by rw [h1]; simp)]; exact h1, h2, rv, h3, h4, h5.mono (Fr.pass g w s d), h6.map fun b o ⟨c1, c2⟩ => ⟨by simp only [Gh.pass]; rw [if_neg (by rw [c1]; simp)]; exact c1, c2⟩⟩

theorem St.pass (h : St X.n g w e S a.tmps) {s d : Nat} (hs : s < X.n) (hd : d < X.n) (hne : s ≠ d) :
    St X.n (g.pass s d) w ((e.put s (e s).bare).put d (e s)) S (a.tmps.setIfInBounds d (a.tmps.getD s Go.undef)) where
  size := by simp [h.size]
  slots t ht := by
    by_cases e1 : t = d
    · subst e1
      rw [getD_set_self _ _ _ _ (by rw [h.size]; exact ht)]
      have := h.slots s hs
      simp only [Env.put, if_true]
      exact ⟨this.rel.mono (Fr.pass g w s t), this.tail.passed⟩
    · rw [getD_set_ne _ _ _ _ _ e1]
      simp only [Env.put, if_neg e1]
      by_cases e2 : t = s
      · subst e2
        rw [if_pos rfl]
        have := h.slots t ht
        exact ⟨this.rel.bare.mono (Fr.pass g w t d), Tail.bare _ _ _ _ _⟩
      · rw [if_neg e2]
        have := h.slots t ht
        exact ⟨this.rel.mono (Fr.pass g w s d), this.tail.pass e2⟩
  beyond t ht := by
    simp only [Env.put]
    rw [if_neg (by omega), if_neg (by omega)]
    exact h.beyond t ht
  objs id cells hi := (h.objs id cells hi).pass
  new b o hb := by
    have := h.new b o hb
    simp [Gh.pass, this]

/-- A new object without cells. -/
def Gh.one (g : Gh) (b o : Nat) : Gh := { lab := g.lab, loc := fun id => if id = g.nxt then (b, o) else g.loc id, nxt := g.nxt + 1 }
theorem Fr.one (g : Gh) (w : World) (b o : Nat) : Fr g (g.one b o) w w where
  os := rfl
  tape := rfl
  output := rfl
  size := Nat.le_refl _
  frozen _ _ h := h
  foreign _ _ h := h
  own _ _ _ h := h
  kept _ _ _ _ := rfl
  mark _ _ _ := rfl
  some _ _ h := h
  block _ _ _ := rfl
  loc id hi := by simp only [Gh.one]; rw [if_neg (by omega)]
  nxt := by simp [Gh.one]
theorem Quiet.one (hn : ∀ b o, w.heap.size ≤ b → g.lab b o = .free) (b o : Nat) : Quiet g (g.one b o) w w := ⟨Fr.one g w b o, fun _ _ _ _ => ⟨rfl, rfl⟩, hn⟩
theorem St.nxtNone {n : Nat} {tmps : Array Value} (h : St n g w e S tmps) : S g.nxt = none := by
  cases hs : S g.nxt with
  | none => rfl
  | some cells => exact absurd (h.objs _ _ hs).lt (Nat.lt_irrefl _)
theorem St.one {n : Nat} {tmps : Array Value} (h : St n g w e S tmps) (b o : Nat) : St n (g.one b o) w e (S.set g.nxt (some [])) tmps :=
  have h1 := h.quiet (Quiet.one h.new b o)
  ⟨h1.size, h1.slots, h1.beyond, fun id cells hi => by
      simp only [Store.set] at hi
      split at hi
      · rename_i heq
        subst heq
        injection hi with hi
        subst hi
        exact ⟨by simp [Gh.one], by simp⟩
      · exact (h.objs id cells hi).quiet (Quiet.one h.new b o), h1.new⟩

theorem vMove_sound {x : Operand} (ho : o.op = .move x ∨ o.op = .assign x) (h : St X.n g w e S a.tmps) (hv : vMove C X o x K e S) (hR : Goes X g w a K R) : o.wp C.P a w R Q := by
  unfold vMove at hv
  split at hv
  · rename_i d s hd
    have hrun : (execOp a.eval o).run C.P w = .ok (.value (a.eval (.tmp s))) w := by
      rcases ho with ho | ho <;> (simp only [execOp, ho]; rfl)
    split at hv
    · split at hv
      · rename_i hc
        unfold Oper.wp
        rw [hrun, Oper.upon_value, hd]
        exact hR _ _ _ _ _ hv (by rw [put_tmps]; exact h.pass hc.2.1 hc.1 hc.2.2) (put_defers _ _ _) (Fr.pass g w s d)
      · exact hv.elim
    · split at hv
      · rename_i hdn
        exact vPut_sound hd hdn hv h hrun (Quiet.refl h.new) (h.top s).bare hR
      · exact hv.elim
  · rename_i d hd
    have hrun : (execOp a.eval o).run C.P w = .ok (.value (.slice none 0 0)) w := by
      rcases ho with ho | ho <;> (simp only [execOp, ho]; rfl)
    split at hv
    · split at hv
      · rename_i sz hn
        split at hv
        · rename_i hdn
          have hS : S g.nxt = none := h.nxtNone
          unfold Oper.wp
          rw [hrun, Oper.upon_value, hd]
          refine hR _ _ (g.one 0 0) _ _ (hv g.nxt hS) ?_ (put_defers _ _ _) (Fr.one g w 0 0)
          rw [put_tmps]
          exact (h.one 0 0).put hdn ⟨.arr0 _ _ _ _ _ _ (fun _ => rfl), by simp [Tail]⟩
        · exact hv.elim
      · exact hv.elim
    · exact vPop_sound h hv hR
  · exact vPop_sound h hv hR
end
end Go.VL
