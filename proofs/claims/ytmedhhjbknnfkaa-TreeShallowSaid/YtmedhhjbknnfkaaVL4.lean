/- VL, part 4: what an operation answers, and that it does. -/
import Derived.Test.YtmedhhjbknnfkaaVL3
namespace Go.VL
open Go

def nilOf (C : Ctx) (t : TypeId) : PV :=
  match C.T t with
  | some ti => (match ti.k with
    | .slice el => (match C.T el with | some te => .sl .tail te.size [] | none => .sl .no 0 [])
    | _ => .sl .no 0 [])
  | none => .sl .no 0 []

/-- An operand, as it is copied. -/
def opd (C : Ctx) (t : TypeId) (x : Operand) (e : Env) : PV :=
  match x with
  | .const (.slice none 0 0) => nilOf C t
  | .tmp s => (e s).bare
  | x => ev x e

def ploc (f : Nat → Nat) : PV → Option PV
  | .ip c o => some (.ip c (f o))
  | .ref id o => some (.ref id (f o))
  | .np c => some (.ip c (f 0))
  | _ => none

def pload (ti : TI) (cells : List PV) (off : Nat) : Option PV :=
  if ti.k.agg then (if off + ti.size ≤ cells.length then some (.agg ((cells.drop off).take ti.size)) else none)
  else cells[off]?.map PV.bare

def places (fs : List (Nat × TypeId × Nat)) (i : Nat) : Option (Nat × Nat) := fs[i]?.map fun x => (x.1, x.2.2)

def ppart (ti : TI) (cells : List PV) (off : Nat) : Option PV := pload ti cells off

def chunks (sz n : Nat) (cells : List PV) : List (List PV) := (List.range n).map fun j => (cells.drop (j * sz)).take sz

def peqp (x y : PV) : Option Bool :=
  match x, y with
  | .nilp, .nilp => some true
  | .nilp, .ip _ _ => some false
  | .ip _ _, .nilp => some false
  | .nilp, .ref _ _ => some false
  | .ref _ _, .nilp => some false
  | .nilp, .np _ => some false
  | .np _, .nilp => some false
  | _, _ => none

/-- Are two plain cells equal? -/
def peqc (x y : PV) : Option Bool :=
  match x, y with
  | .int _ a, .int _ b => some (a == b)
  | .str a, .str b => some (a.toList == b.toList)
  | .bool a, .bool b => some (a == b)
  | _, _ => none
def peqk : TK → PV → PV → Bool
  | .int _, .int k _, .int l _ => decide (k = l)
  | .bool, .bool _, .bool _ => true
  | .str, .str _, .str _ => true
  | _, _, _ => false
def peqA : Option TI → Option PV → Option PV → Option Bool → Option Bool
  | some ti, some x, some y, some r => if peqk ti.k x y then (peqc x y).map (· && r) else none
  | _, _, _, _ => none
def peqs (C : Ctx) : List (Nat × TypeId × Nat) → List PV → List PV → Option Bool
  | [], _, _ => some true
  | (off, ft, _) :: fs, xs, ys => peqA (C.T ft) xs[off]? ys[off]? (peqs C fs xs ys)
def peqS (C : Ctx) (t : TypeId) (fs : List (Nat × TypeId × Nat)) (x y : PV) : Option Bool :=
  match C.E t, x, y with
  | true, .agg a, .agg b => peqs C fs a b
  | _, _, _ => none

def pun (op : UnOp) (x : PV) : Option PV :=
  match op, x with
  | .not, .bool b => some (.bool !b)
  | .neg, .int k n => some (.int k (k.wrap (0 - n)))
  | .xor, .int k n => some (.int k (k.wrap (BitVec.ofInt k.bits (if k.signed then -1 else k.max) ^^^ BitVec.ofInt k.bits n).toNat))
  | _, _ => none

/-- An integer operand, or a default. -/
def bnd (x : Option PV) (d : Int) : Option Int :=
  match x with
  | none => some d
  | some (.int _ n) => some n
  | _ => none

def pslice (x : PV) (lo hi mx : Option PV) : Option PV :=
  match x with
  | .str s => (match bnd lo 0, bnd hi s.size, mx with
    | some l, some h, none => if 0 ≤ l ∧ l ≤ h ∧ h ≤ s.size then some (.str (s.extract l.toNat h.toNat)) else none
    | _, _, _ => none)
  | .sl _ sz rows => (match bnd lo 0, bnd hi rows.length with
    | some l, some h => if 0 ≤ l ∧ l ≤ h ∧ h ≤ rows.length then
        (match mx with
        | none => some (.sl .no sz ((rows.drop l.toNat).take (h.toNat - l.toNat)))
        | some (.int _ m) => if m = h ∧ hi.isSome = true then some (.sl .tail sz ((rows.drop l.toNat).take (h.toNat - l.toNat))) else none
        | _ => none) else none
    | _, _ => none)
  | _ => none

/-- A stretch of an array of one's own. -/
def parr (id off len sz : Nat) (lo hi mx : Option PV) : Option PV :=
  match bnd lo 0, bnd hi len with
    | some l, some h => if 0 ≤ l ∧ l ≤ h ∧ h ≤ len then
        (match mx with
        | none => some (.arr .no id (off + l.toNat * sz) (h.toNat - l.toNat) sz)
        | some (.int _ m) => if m = h ∧ h = l ∧ hi.isSome = true then some (.sl .tail sz []) else none
        | _ => none) else none
    | _, _ => none

def pcall (C : Ctx) (b : Builtin) (ts : Array TypeId) (xs : List PV) : Option PV :=
  match b, xs with
  | .len, [.sl _ _ rows] => (match (ts[0]?).bind C.T with | some ⟨.slice _, _, _, _⟩ => some (.int .i64 rows.length) | _ => none)
  | .len, [.arr _ _ _ len _] => (match (ts[0]?).bind C.T with | some ⟨.slice _, _, _, _⟩ => some (.int .i64 len) | _ => none)
  | .len, [.str s] => (match (ts[0]?).bind C.T with | some ⟨.str, _, _, _⟩ => some (.int .i64 s.size) | _ => none)
  | .max, [.int k a, .int _ b] => some (.int k (if b > a then b else a))
  | .min, [.int k a, .int _ b] => some (.int k (if b < a then b else a))
  | _, _ => none

/-- Rows that are bytes, as numbers. -/
def pb1 : List PV → Option Int
  | [.int .u8 n] => some n
  | _ => none
def pbs : List (List PV) → Option (List Int)
  | [] => some []
  | r :: rs => (match pb1 r, pbs rs with
    | some n, some ns => some (n :: ns)
    | _, _ => none)
def bsOf (ns : List Int) : ByteArray := ns.foldl (fun r n => r.push (UInt8.ofNat n.toNat)) ByteArray.empty

def pop (C : Ctx) (o : Oper) (e : Env) : Option PV :=
  match o.op with
  | .move x => some (opd C o.type x e)
  | .assign x => some (opd C o.type x e)
  | .pick c x y => (match ev c e with | .bool t => some (if t then (ev x e).bare else (ev y e).bare) | _ => none)
  | .nilCheck x => ploc id (ev x e)
  | .load t x => (match C.T t, ev x e with | some ti, .ip cells off => pload ti cells off | some ti, .np cells => pload ti cells 0 | _, _ => none)
  | .fieldAddr t x f => (match C.T t with
    | some ⟨.struct fs, _, _, _⟩ => (match places fs f with | some (off, sz) => if sz = 0 then none else ploc (· + off) (ev x e) | none => none)
    | _ => none)
  | .indexAddr t x i => (match C.T t with
    | some ⟨.slice el, _, _, _⟩ => (match C.T el, ev x e, ev i e with
      | some te, .sl _ sz rows, .int _ n => if te.size = sz then (if 0 ≤ n ∧ n < rows.length then some (.ip (rows.getD n.toNat []) 0) else none) else none
      | some te, .arr _ id off len sz, .int _ n => if te.size = sz then (if 0 ≤ n ∧ n < len then some (.ref id (off + n.toNat * sz)) else none) else none
      | _, _, _ => none)
    | some ⟨.array len el, _, _, _⟩ => (match C.T el, ev i e with
      | some te, .int _ n => if 0 ≤ n ∧ n < len then ploc (· + n.toNat * te.size) (ev x e) else none
      | _, _ => none)
    | _ => none)
  | .index t x i => (match C.T t, ev x e, ev i e with
    | some ⟨.str, _, _, _⟩, .str s, .int _ n => if 0 ≤ n ∧ n < s.size then some (.int .u8 ((s.data.getD n.toNat 0).toNat : Int)) else none
    | some ⟨.array len el, _, _, _⟩, .agg cs, .int _ n => if 0 ≤ n ∧ n < len then (match C.T el with | some te => ppart te cs (n.toNat * te.size) | none => none) else none
    | _, _, _ => none)
  | .field t x f => (match C.T t, ev x e with
    | some ⟨.struct fs, _, _, _⟩, .agg cs => (match fs[f]? with | some (off, ft, _) => (match C.T ft with | some tf => ppart tf cs off | none => none) | none => none)
    | _, _ => none)
  | .binOp op t x y _ => (match pbin op (ev x e) (ev y e) with
    | some v => some v
    | none => (match C.T t, op with
      | some ⟨.ptr, _, _, _⟩, .eql => (peqp (ev x e) (ev y e)).map .bool
      | some ⟨.ptr, _, _, _⟩, .neq => (peqp (ev x e) (ev y e)).map fun b => .bool !b
      | some ⟨.bool, _, _, _⟩, .eql => (match ev x e, ev y e with | .bool a, .bool b => some (.bool (a == b)) | _, _ => none)
      | some ⟨.bool, _, _, _⟩, .neq => (match ev x e, ev y e with | .bool a, .bool b => some (.bool !(a == b)) | _, _ => none)
      | some ⟨.struct fs, _, _, _⟩, .eql => (peqS C t fs (ev x e) (ev y e)).map .bool
      | some ⟨.struct fs, _, _, _⟩, .neq => (peqS C t fs (ev x e) (ev y e)).map fun b => .bool !b
      | _, _ => none))
  | .unOp op _ x => pun op (ev x e)
  | .convert s d x => (match C.T s, C.T d, ev x e with
    | some _, some ⟨.int k, _, _, _⟩, .int _ n => some (.int k (k.wrap n))
    | some ⟨.str, _, _, _⟩, some ⟨.str, _, _, _⟩, .str b => some (.str b)
    | some ⟨.slice el, _, _, _⟩, some ⟨.str, _, _, _⟩, .sl _ 1 rows => (match C.T el with | some ⟨.int .u8, _, _, _⟩ => (pbs rows).map fun ns => .str (bsOf ns) | _ => none)
    | _, _, _ => none)
  | .extract x i => (match ev x e with | .tup vs => vs[i]?.map PV.bare | _ => none)
  | .build t ps => (match C.T t with
    | some ⟨.struct fs, _, _, z⟩ => (pfill (places fs) z (ps.toList.map fun p => (p.1, ev p.2 e))).map .agg
    | some ⟨.array _ el, _, _, z⟩ => (match C.T el with
      | some te => (pfill (fun i => some (i * te.size, te.size)) z (ps.toList.map fun p => (p.1, ev p.2 e))).map .agg
      | none => none)
    | _ => none)
  | .buildSlice t n ps => (match C.T t with
    | some ⟨.slice el, _, _, _⟩ => (match C.T el with
      | some te => if n * te.size ≤ 16777216 ∧ 0 < te.size then
          (pfill (fun i => some (i * te.size, te.size)) ((List.range (n * te.size)).map fun k => te.zero.getD (k % te.size) .undef) (ps.toList.map fun p => (p.1, ev p.2 e))).map fun cells => .sl .tail te.size (chunks te.size n cells)
          else none
      | none => none)
    | _ => none)
  | .box _ x => (pcells (ev x e)).map fun cs => .ip cs 0
  | .slice t x lo hi mx => (match C.T t, ev x e with
    | some ⟨.str, _, _, _⟩, .str s => pslice (.str s) (lo.map (ev · e)) (hi.map (ev · e)) (mx.map (ev · e))
    | some ⟨.slice el, _, _, _⟩, .sl f sz rows => (match C.T el with
      | some te => if te.size = sz then pslice (.sl f sz rows) (lo.map (ev · e)) (hi.map (ev · e)) (mx.map (ev · e)) else none
      | none => none)
    | some ⟨.slice el, _, _, _⟩, .arr _ id off len sz => (match C.T el with
      | some te => if te.size = sz then parr id off len sz (lo.map (ev · e)) (hi.map (ev · e)) (mx.map (ev · e)) else none
      | none => none)
    | _, _ => none)
  | .makeFunc f xs cs => some (.fn f (xs.toList.map fun x => (ev x e).bare) (cs.toList.map fun x => (ev x e).bare))
  | .call ⟨.builtin b, xs, ts⟩ => pcall C b ts (xs.toList.map (ev · e))
  | _ => none

/-- The operation is done at once, and leaves all that is owned as it was. -/
def Doing (C : Ctx) (o : Oper) (g : Gh) (w : World) (a : Act) (v : PV) : Prop :=
  ∃ rv w' g', (execOp a.eval o).run C.P w = .ok (.value rv) w' ∧ Quiet g g' w w' ∧ ∀ d, Top g' w' d v rv

section
variable {C : Ctx} {o : Oper} {g : Gh} {w : World} {a : Act} {e : Env} {n : Nat} {S : Store} {v : PV}

theorem Doing.still (h : St n g w e S a.tmps) (rv : Value) (hr : (execOp a.eval o).run C.P w = .ok (.value rv) w) (ht : ∀ d, Top g w d v rv) : Doing C o g w a v :=
  ⟨rv, w, g, hr, Quiet.refl h.new, ht⟩
theorem Doing.bare (h : St n g w e S a.tmps) (rv : Value) (hr : (execOp a.eval o).run C.P w = .ok (.value rv) w) (ht : Rel g w v rv) (hb : v.bare = v) : Doing C o g w a v :=
  Doing.still h rv hr fun _ => .ofRel ht hb

theorem nilOf_top (C : Ctx) (t : TypeId) (d : Nat) : Top g w d (nilOf C t) (.slice none 0 0) := by
  unfold nilOf
  split
  · split
    · split
      · exact ⟨.slnil _ _, by simp [Tail]⟩
      · exact ⟨.slnil _ _, by simp [Tail]⟩
    · exact ⟨.slnil _ _, by simp [Tail]⟩
  · exact ⟨.slnil _ _, by simp [Tail]⟩

theorem pvc_top (v : Value) (d : Nat) : Top g w d (pvc v) v := by
  refine ⟨pvc_rel g w v, ?_⟩
  unfold pvc
  split <;> simp [Tail]

theorem opd_top (h : St n g w e S a.tmps) (t : TypeId) (x : Operand) (d : Nat) : Top g w d (opd C t x e) (a.eval x) := by
  unfold opd
  split
  · exact nilOf_top C t d
  · exact (h.top _).bare
  · rename_i h1 h2
    cases x with
    | tmp s => exact absurd rfl (h2 s)
    | const v => exact pvc_top v d
    | global q => exact ⟨.undef _, by simp [ev, Tail]⟩
    | func f => exact ⟨h.ev (.func f), by simp [ev, Tail]⟩

theorem ploc_rel {f : Nat → Nat} {x v : PV} {rv : Value} (h : ploc f x = some v) (hr : Rel g w x rv) : ∃ b o', rv = .pointer (some ⟨b, o', none⟩) ∧ ∀ k, (∀ i, f i = i + k) → Rel g w v (.pointer (some ⟨b, o' + k, none⟩)) := by
  cases hr <;> simp only [ploc, Option.some.injEq, reduceCtorEq] at h
  case ip cells off b o fv h1 h2 =>
    subst h
    refine ⟨b, o + off, rfl, fun k hk => ?_⟩
    rw [hk, Nat.add_assoc]
    exact .ip fv h1 h2
  case ref id off hn =>
    subst h
    refine ⟨_, _, rfl, fun k hk => ?_⟩
    rw [hk, Nat.add_assoc]
    exact .ref hn
  case np cells b o fv hb h1 h2 =>
    subst h
    refine ⟨b, o, rfl, fun k hk => ?_⟩
    rw [hk]
    have := @Rel.ip g w cells (0 + k) b o fv h1 h2
    simpa using this

theorem ploc_bare {f : Nat → Nat} {x v : PV} (h : ploc f x = some v) : v.bare = v := by
  unfold ploc at h
  split at h <;> cases h <;> rfl

omit C o g w a e n S v in
theorem range_map {m k : Nat} {f : Nat → Value} {rv : Value} (h : ((List.range m).map f).toArray[k]? = some rv) : k < m ∧ f k = rv := by
  simp only [List.getElem?_toArray, List.getElem?_map, Option.map_eq_some_iff] at h
  obtain ⟨i, hi, hf⟩ := h
  obtain ⟨hk, he⟩ := List.getElem?_eq_some_iff.1 hi
  simp at hk he
  subst he
  exact ⟨hk, hf⟩

theorem pload_ip {ti : TI} {t : TypeId} (ht : C.T t = some ti) {cells : List PV} {off : Nat} {rv : Value} (hl : pload ti cells off = some v) (hr : Rel g w (.ip cells off) rv) :
    ∃ ad x, rv = .pointer (some ad) ∧ (loadVar t ad).run C.P w = .ok x w ∧ Rel g w v x ∧ v.bare = v := by
  cases hr with
  | @ip _ _ b o f h1 h2 =>
    refine ⟨⟨b, o + off, none⟩, ?_⟩
    unfold pload at hl
    unfold loadVar
    split at hl
    · rename_i hag
      split at hl
      · rename_i hle
        cases hl
        have hrun := run_loadCells (P := C.P) w ⟨b, o + off, none⟩ ti.size (fun j => f (off + j)) (fun j hj => by
          have hk : cells[off + j]? = some cells[off + j] := List.getElem?_eq_getElem (by omega)
          have := (h1 _ _ hk).2.1
          rw [Addr.add_lit, Nat.add_assoc]
          exact this)
        refine ⟨.agg ((List.range ti.size).map fun j => f (off + j)).toArray, rfl, ?_, ?_, rfl⟩
        · simp only [Sem.run_bind, C.isAgg ht, Result.andThen_ok, hag, if_true, C.sizeOf ht, hrun]
          rfl
        · refine .agg (by simp; omega) (fun k rv hk => ?_) (fun k v rv hv hk => ?_)
          · obtain ⟨hlt, rfl⟩ := range_map hk
            exact (h1 (off + k) _ (List.getElem?_eq_getElem (by omega))).2.2
          · obtain ⟨hlt, rfl⟩ := range_map hk
            rw [List.getElem?_take, if_pos hlt, List.getElem?_drop] at hv
            exact h2 _ _ hv
      · cases hl
    · rename_i hag
      cases hc : cells[off]? with
      | none => rw [hc] at hl; cases hl
      | some u =>
        rw [hc] at hl
        simp only [Option.map_some, Option.some.injEq] at hl
        subst hl
        have := (h1 _ _ hc).2.1
        refine ⟨f off, rfl, ?_, (h2 _ _ hc).bare, PV.bare_bare u⟩
        have hag' : ti.k.agg = false := by simpa using hag
        simp only [Sem.run_bind, C.isAgg ht, Result.andThen_ok, hag', Bool.false_eq_true, if_false]
        simp [load, Sem.run, this]

theorem np_ip {cells : List PV} {rv : Value} (h : Rel g w (.np cells) rv) : Rel g w (.ip cells 0) rv := by
  cases h with
  | np f hb h hr => exact .ip f h hr
end
end Go.VL
