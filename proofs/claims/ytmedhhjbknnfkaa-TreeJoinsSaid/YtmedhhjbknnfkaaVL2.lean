/- VL, part 2: what single operations answer, in plain values. -/
import Derived.Test.YtmedhhjbknnfkaaVL1
import Derived.WalkKit
import Derived.Laws.Slices
import Derived.Laws.StructEq
namespace Go.VL
open Go

inductive TK where
  | int (k : IntKind) | bool | str | ptr | slice (e : TypeId) | struct (fs : List (Nat × TypeId × Nat)) | array (n : Nat) (e : TypeId) | iface | func | other

structure TI where
  k : TK
  size : Nat
  bytes : Nat
  zero : List PV

def TK.agg : TK → Bool
  | .struct _ => true
  | .array _ _ => true
  | _ => false

def TKok (P : Program) : TK → TypeDesc → Prop
  | .int k, d => d = .int k
  | .bool, d => d = .bool
  | .str, d => d = .string
  | .ptr, d => ∃ e, d = .pointer e
  | .slice e, d => d = .slice e
  | .struct fs, d => ∃ a, d = .struct a ∧ a.toList.mapM (fun f => (P.info? f.type).map fun i => (f.offset, i.size)) = some (fs.map fun x => (x.1, x.2.2)) ∧ ∀ (j : Nat) f, a[j]? = some f → ∃ i, P.info? f.type = some i ∧ fs[j]? = some (f.offset, f.type, i.size)
  | .array n e, d => d = .array n e
  | .iface, d => ∃ m, d = .interface m
  | .func, d => ∃ a b c, d = .func a b c
  | .other, d => (∃ k e, d = .map k e) ∨ (∃ ts, d = .tuple ts)

structure TIok (P : Program) (t : TypeId) (ti : TI) : Prop where
  info : ∃ i z, P.info? t = some i ∧ i.size = ti.size ∧ i.bytes = ti.bytes ∧ i.zero = some z ∧ z.cells.size = ti.size ∧ (∀ u ∈ z.cells.toList, u.oneCell' = true) ∧ ti.zero.length = ti.size ∧
    ∀ g w (k : Nat) v u, ti.zero[k]? = some v → z.cells[k]? = some u → Rel g w v u ∧ Rel g w v.opn u ∧ (∀ id k0, RoomOk g w id k0 v.opn u) ∧ ∀ f sz, v = .sl f sz [] → u = .slice none 0 0
  und : ∃ d, P.underlying t = some d ∧ TKok P ti.k d

/-- A struct type whose values are compared field by field. -/
structure EqOk (P : Program) (t : TypeId) : Prop where
  held : P.stoodInHeld t = false
  guard : P.eqGuardType P.depth t = false
  names : ∀ f ∈ (P.fieldsOf t).toList, f.name ≠ "_"

structure Ctx where
  P : Program
  T : TypeId → Option TI
  hT : ∀ t ti, T t = some ti → TIok P t ti
  hm : P.follows .mixedOrders = true
  E : TypeId → Bool
  hE : ∀ t, E t = true → EqOk P t
  Z : TypeId → Bool
  hZ : ∀ t, Z t = true → ∃ el i, P.underlying t = some (.pointer el) ∧ P.info? el = some i ∧ i.size ≠ 0

/-- What a function's walk needs beside: how many slots; which operations move their operands; which variables are written. -/
structure Fx where
  n : Nat
  mv : Nat → Bool
  vars : Nat → Bool

theorem Ctx.isAgg (C : Ctx) {t : TypeId} {ti : TI} (h : C.T t = some ti) (w : World) : (isAgg t).run C.P w = .ok ti.k.agg w := by
  obtain ⟨d, hd, hk⟩ := (C.hT t ti h).und
  unfold Go.isAgg
  simp only [Sem.run_bind, run_underlying hd, Result.andThen_ok]
  cases hkk : ti.k <;> rw [hkk] at hk <;> simp only [TKok] at hk
  case ptr => obtain ⟨e, rfl⟩ := hk; rfl
  case struct => obtain ⟨a, rfl, _⟩ := hk; rfl
  case iface => obtain ⟨e, rfl⟩ := hk; rfl
  case func => obtain ⟨a, b, c, rfl⟩ := hk; rfl
  case other => rcases hk with ⟨a, b, rfl⟩ | ⟨a, rfl⟩ <;> rfl
  all_goals (subst hk; rfl)

theorem Ctx.sizeOf (C : Ctx) {t : TypeId} {ti : TI} (h : C.T t = some ti) (w : World) : (sizeOf t).run C.P w = .ok ti.size w := by
  obtain ⟨i, z, hi, hs, _⟩ := (C.hT t ti h).info
  simp [Go.sizeOf, typeInfo, hi, hs]

def pvc : Value → PV
  | .bool b => .bool b
  | .int k n => .int k n
  | .string s => .str s
  | .pointer none => .nilp
  | .slice none 0 0 => .sl .no 0 []
  | .nilFunc => .nilf
  | .nilIface => .nili
  | _ => .undef

theorem pvc_rel (g : Gh) (w : World) (v : Value) : Rel g w (pvc v) v := by
  unfold pvc
  split
  · exact .bool _
  · exact .int _ _
  · exact .str _
  · exact .nilp
  · exact .slnil _ _
  · exact .nilf
  · exact .nili
  · exact .undef _

def ev (x : Operand) (e : Env) : PV :=
  match x with
  | .tmp t => e t
  | .const v => pvc v
  | .global _ => .undef
  | .func f => .fn (.func f) [] []

section
variable {n : Nat} {g : Gh} {w : World} {e : Env} {S : Store} {a : Act}

theorem St.top (h : St n g w e S a.tmps) (t : Nat) : Top g w t (e t) (a.eval (.tmp t)) := by
  by_cases ht : t < n
  · exact h.slots t ht
  · have h1 := h.beyond t (by omega)
    have : a.eval (.tmp t) = Go.undef := by
      simp [Act.eval, Array.getD, h.size, ht]
    rw [h1, this]
    exact ⟨.undef _, by simp [Tail]⟩

theorem St.ev (h : St n g w e S a.tmps) (x : Operand) : Rel g w (ev x e) (a.eval x) := by
  cases x with
  | tmp t => exact (h.top t).rel
  | const v => exact pvc_rel g w v
  | global q => exact .undef _
  | func f => exact .fn (by simp) (by simp) (by simp) (by simp)
end

/-- What an operation answers that is done at once and leaves all that is owned as it was. -/
def Does (C : Ctx) (o : Oper) (g : Gh) (w : World) (a : Act) (v : PV) : Prop :=
  ∃ rv w' g', (execOp a.eval o).run C.P w = .ok (.value rv) w' ∧ Quiet g g' w w' ∧ Rel g' w' v rv

theorem Does.still {C : Ctx} {o : Oper} {g : Gh} {w : World} {a : Act} {v : PV} (hn : ∀ b o, w.heap.size ≤ b → g.lab b o = .free) (rv : Value) (h : (execOp a.eval o).run C.P w = .ok (.value rv) w) (hr : Rel g w v rv) : Does C o g w a v :=
  ⟨rv, w, g, h, Quiet.refl hn, hr⟩

/-! ### integers, texts, bools -/
def pbin (op : BinOp) (x y : PV) : Option PV :=
  match op, x, y with
  | .shl, .int k a, .int _ b => if b < 0 then none else some (.int k (k.wrap (a * 2 ^ min b.toNat k.bits)))
  | .shr, .int k a, .int _ b => if b < 0 then none else some (.int k (a.fdiv (2 ^ min b.toNat k.bits)))
  | .add, .int k a, .int k' b => if k = k' then some (.int k (k.wrap (a + b))) else none
  | .sub, .int k a, .int k' b => if k = k' then some (.int k (k.wrap (a - b))) else none
  | .mul, .int k a, .int k' b => if k = k' then some (.int k (k.wrap (a * b))) else none
  | .quo, .int k a, .int k' b => if k = k' ∧ b ≠ 0 then some (.int k (k.wrap (a.tdiv b))) else none
  | .rem, .int k a, .int k' b => if k = k' ∧ b ≠ 0 then some (.int k (a.tmod b)) else none
  | .and, .int k a, .int k' b => if k = k' then some (.int k (k.wrap (BitVec.ofInt k.bits a &&& BitVec.ofInt k.bits b).toNat)) else none
  | .or, .int k a, .int k' b => if k = k' then some (.int k (k.wrap (BitVec.ofInt k.bits a ||| BitVec.ofInt k.bits b).toNat)) else none
  | .xor, .int k a, .int k' b => if k = k' then some (.int k (k.wrap (BitVec.ofInt k.bits a ^^^ BitVec.ofInt k.bits b).toNat)) else none
  | .eql, .int k a, .int k' b => if k = k' then some (.bool (a == b)) else none
  | .neq, .int k a, .int k' b => if k = k' then some (.bool (a != b)) else none
  | .lss, .int k a, .int k' b => if k = k' then some (.bool (decide (a < b))) else none
  | .leq, .int k a, .int k' b => if k = k' then some (.bool (decide (a ≤ b))) else none
  | .gtr, .int k a, .int k' b => if k = k' then some (.bool (decide (a > b))) else none
  | .geq, .int k a, .int k' b => if k = k' then some (.bool (decide (a ≥ b))) else none
  | .add, .str a, .str b => if ((a.size + b.size : Nat) : Int) ≤ 9223372036854775807 then some (.str (a ++ b)) else none
  | .eql, .str a, .str b => some (.bool (a.toList == b.toList))
  | .neq, .str a, .str b => some (.bool (!(a.toList == b.toList)))
  | .lss, .str a, .str b => some (.bool (Op.bytesLess a.toList b.toList))
  | .leq, .str a, .str b => some (.bool (Op.bytesLess a.toList b.toList || a.toList == b.toList))
  | .gtr, .str a, .str b => some (.bool (!(Op.bytesLess a.toList b.toList || a.toList == b.toList)))
  | .geq, .str a, .str b => some (.bool (!(Op.bytesLess a.toList b.toList)))
  | _, _, _ => none

theorem rel_int {g : Gh} {w : World} {k : IntKind} {n : Int} {rv : Value} (h : Rel g w (.int k n) rv) : rv = .int k n := by cases h; rfl
theorem rel_str {g : Gh} {w : World} {s : ByteArray} {rv : Value} (h : Rel g w (.str s) rv) : rv = .string s := by cases h; rfl
theorem rel_bool {g : Gh} {w : World} {b : Bool} {rv : Value} (h : Rel g w (.bool b) rv) : rv = .bool b := by cases h; rfl
theorem rel_nilp {g : Gh} {w : World} {rv : Value} (h : Rel g w .nilp rv) : rv = .pointer none := by cases h; rfl

theorem eqGuard_plain {P : Program} {w : World} (op : BinOp) (t : TypeId) (x y : Operand) (a b : Value) (ha : ∀ c, a ≠ .agg c) (hb : a ≠ .nilIface) : (eqGuard op t x y a b).run P w = .ok () w := by
  unfold eqGuard
  cases op <;> simp <;> cases a <;> simp_all

theorem imax : IntKind.i64.max = 9223372036854775807 := by decide
theorem run_str_add {P : Program} {w : World} (t : TypeId) (x y : ByteArray) (h : ((x.size + y.size : Nat) : Int) ≤ 9223372036854775807) : (binOp .add t (.string x) (.string y)).run P w = .ok (.string (x ++ y)) w := by
  show (Op.stringOp .add x y).run P w = _
  unfold Op.stringOp
  dsimp only
  rw [if_neg (by rw [imax]; exact Int.not_lt.2 h)]
  rfl

theorem bin_int {P : Program} {w : World} {g : Gh} {op : BinOp} {t : TypeId} {a b : Value} {k : IntKind} {n : Int} (hr : (binOp op t a b).run P w = .ok (.int k n) w) (h1 : ∀ c, a ≠ .agg c) (h2 : a ≠ .nilIface) :
    ∃ rv, (binOp op t a b).run P w = .ok rv w ∧ Rel g w (.int k n) rv ∧ (∀ c, a ≠ .agg c) ∧ a ≠ .nilIface := ⟨_, hr, .int _ _, h1, h2⟩
theorem bin_bool {P : Program} {w : World} {g : Gh} {op : BinOp} {t : TypeId} {a b : Value} {n : Bool} (hr : (binOp op t a b).run P w = .ok (.bool n) w) (h1 : ∀ c, a ≠ .agg c) (h2 : a ≠ .nilIface) :
    ∃ rv, (binOp op t a b).run P w = .ok rv w ∧ Rel g w (.bool n) rv ∧ (∀ c, a ≠ .agg c) ∧ a ≠ .nilIface := ⟨_, hr, .bool _, h1, h2⟩

theorem pbin_run {P : Program} {w : World} {g : Gh} {op : BinOp} {x y v : PV} {a b : Value} (t : TypeId) (h : pbin op x y = some v) (hx : Rel g w x a) (hy : Rel g w y b) :
    ∃ rv, (binOp op t a b).run P w = .ok rv w ∧ Rel g w v rv ∧ (∀ c, a ≠ .agg c) ∧ a ≠ .nilIface := by
  unfold pbin at h
  split at h
  all_goals first
    | (have ha := rel_int hx; have hb := rel_int hy; subst ha; subst hb)
    | (have ha := rel_str hx; have hb := rel_str hy; subst ha; subst hb)
    | cases h
  all_goals try (split at h <;> try cases h)
  all_goals try (injection h with h; subst h)
  case h_17 hc => exact ⟨_, run_str_add t _ _ hc, .str _, by simp, by simp⟩
  all_goals try (rename_i hc)
  all_goals first | refine bin_int ?_ (by simp) (by simp) | refine bin_bool ?_ (by simp) (by simp)
  all_goals first
    | (simp [binOp, Op.shift, hc]; done)
    | (obtain ⟨rfl, hc⟩ := hc; simp [binOp, Op.intDiv, hc]; done)
    | (subst hc; simp [binOp, Op.intArith, Op.intBits, Op.intCmp]; done)
    | (simp [binOp, Op.stringOp]; done)
end Go.VL
