/- VL, part 16: regions that draw their order, of operations that leave what is owned as it was. -/
import Derived.Test.YtmedhhjbknnfkaaVL15
set_option linter.unusedVariables false
set_option linter.unusedSimpArgs false
namespace Go.VL
open Go

/-- A call that answers, and leaves the objects as they were. -/
def PRet (P : Program) (f : FuncId) (args : List PV) (S : Store) (v : PV) : Prop := ∀ K : PV → Store → Prop, K v S → PCalls P f args S K

def opTmps (xs : List Operand) : List Nat := xs.filterMap fun | .tmp t => some t | _ => none
def looks (all : List Oper) (o : Oper) : List Nat :=
  opTmps o.op.operands.toList ++ (match o.guard with | some (j, _) => (((all[j]?).bind (·.dst)).toList) | none => [])
def edgesOf (o : Oper) : List Nat := (o.after.toList.filter (Region.binds .any)).map (·.on)
def maskOf (acc : List Nat) (o : Oper) : Nat := (edgesOf o).foldl (fun s i => s ||| 2 ^ i ||| acc.getD i 0) 0
def befGo (acc : List Nat) : List Oper → List Nat
  | [] => acc
  | o :: os => befGo (acc ++ [maskOf acc o]) os
/-- The slot that an operation turns: its own, or that of a new variable that it gives its first value. -/
def ods (o : Oper) : Option Nat :=
  match o.dst with
  | some d => some d
  | none => (match o.op with | .store _ (.tmp s) _ => some s | _ => none)
theorem ods_some {o : Oper} {d : Nat} (h : o.dst = some d) : ods o = some d := by unfold ods; rw [h]
/-- The slot whose flag an operation takes over. -/
def mvr (X : Fx) (o : Oper) : Option Nat :=
  match o.op, o.dst with
  | .move (.tmp s), some d => if X.mv d then some s else none
  | .assign (.tmp s), some d => if X.mv d then some s else none
  | .call ⟨.builtin .append, xs, _⟩, some _ => (match xs.toList with | .tmp s :: _ => some s | _ => none)
  | _, _ => none
/-- The slots, when an operation has answered. -/
def effG (m : Option Nat) (d : Nat) (e : Env) (v : PV) : Env :=
  match m with
  | some s => (e.put s (e s).bare).put d v
  | none => e.put d v
/-- The slots that an operation turns. -/
def wrs (X : Fx) (o : Oper) : List Nat := (ods o).toList ++ (mvr X o).toList
def drawOk (X : Fx) (all : List Oper) : Bool :=
  let b := befGo [] all
  (all.all fun o => (ods o).isSome) && (all.zipIdx.all fun (o, j) => (edgesOf o).all (fun i => decide (i < j)) && (all.zipIdx.all fun (p, i) => !(decide (i < j)) || ((wrs X p).all fun t => !(wrs X o).contains t) || (b.getD j 0).testBit i) &&
    (looks all o).all fun t => all.zipIdx.all fun (p, i) => !(wrs X p).contains t || i == j || (b.getD j 0).testBit i || (b.getD i 0).testBit j) && all.all fun o => (match o.op with | .select .. => false | _ => true)

inductive Reach (all : List Oper) : Nat → Nat → Prop where
  | edge {j i : Nat} {o : Oper} (h : all[j]? = some o) (he : i ∈ edgesOf o) : Reach all j i
  | step {j i k : Nat} {o : Oper} (h : all[j]? = some o) (he : i ∈ edgesOf o) (hr : Reach all i k) : Reach all j k

theorem mask_fold {all : List Oper} {j : Nat} {o : Oper} {acc : List Nat} (ho : all[j]? = some o) (hacc : ∀ i k, (acc.getD i 0).testBit k = true → Reach all i k) :
    ∀ (l : List Nat) (s : Nat), (∀ i ∈ l, i ∈ edgesOf o) → (∀ k, s.testBit k = true → Reach all j k) → ∀ k, (l.foldl (fun s i => s ||| 2 ^ i ||| acc.getD i 0) s).testBit k = true → Reach all j k
  | [], s, _, hs, k, h => hs k h
  | i :: l, s, hl, hs, k, h => by
    refine mask_fold ho hacc l _ (fun x hx => hl x (List.mem_cons_of_mem _ hx)) (fun q hq => ?_) k h
    simp only [Nat.testBit_or, Bool.or_eq_true] at hq
    rcases hq with (hq | hq) | hq
    · exact hs q hq
    · rw [Nat.testBit_two_pow] at hq
      have : i = q := by simpa using hq
      subst this
      exact .edge ho (hl i (List.mem_cons_self ..))
    · exact .step ho (hl i (List.mem_cons_self ..)) (hacc _ _ hq)

theorem befGo_reach {all : List Oper} : ∀ (os : List Oper) (acc : List Nat), (∀ i k, (acc.getD i 0).testBit k = true → Reach all i k) → (∀ j, all[acc.length + j]? = os[j]?) → ∀ i k, ((befGo acc os).getD i 0).testBit k = true → Reach all i k
  | [], acc, h, _, i, k, hk => h i k hk
  | o :: os, acc, h, hl, i, k, hk => by
    have ho : all[acc.length]? = some o := by have := hl 0; simpa using this
    refine befGo_reach os (acc ++ [maskOf acc o]) (fun i k hk => ?_) (fun j => ?_) i k hk
    · rw [List.getD_eq_getElem?_getD] at hk
      by_cases h1 : i < acc.length
      · rw [List.getElem?_append_left h1] at hk
        exact h i k (by rw [List.getD_eq_getElem?_getD]; exact hk)
      · by_cases h2 : i = acc.length
        · subst h2
          rw [List.getElem?_append_right (Nat.le_refl _)] at hk
          simp at hk
          exact mask_fold ho h _ 0 (fun _ h => h) (by simp) k hk
        · rw [List.getElem?_eq_none (by simp; omega)] at hk
          simp at hk
    · have := hl (j + 1)
      simp only [List.length_append, List.length_cons, List.length_nil, List.getElem?_cons_succ] at this ⊢
      rw [← this]
      congr 1
      omega

section
variable {C : Ctx} {X : Fx} {o : Oper} {g : Gh} {w : World} {a : Act} {e : Env} {S : Store}

/-- An operation that makes a variable of a value. -/
def isBox : Op → Bool
  | .box _ _ => true
  | _ => false
/-- A slot that does not take over what its operation looks at, but for what is boxed. -/
def mvOk (X : Fx) (o : Oper) (d : Nat) : Prop := X.mv d = false ∨ isBox o.op = true ∨ (mvr X o).isSome = true

instance {X : Fx} {o : Oper} {d : Nat} : Decidable (mvOk X o d) := inferInstanceAs (Decidable (_ ∨ _))

/-- What an operation answers that takes over a flag. -/
def qmv (C : Ctx) (X : Fx) (o : Oper) (e : Env) (S : Store) (v : PV) : Prop :=
  match o.op, o.dst with
  | .move (.tmp s), some d => s < X.n ∧ s ≠ d ∧ v = e s
  | .assign (.tmp s), some d => s < X.n ∧ s ≠ d ∧ v = e s
  | .call c, some d => (match c.args.toList with
    | [.tmp s, x] => X.vars d = false ∧ s < X.n ∧ ∃ sz rows more, pappend C c.argTypes.toList (e s) (vw S (ev x e)) = some (sz, rows, more) ∧ v = .sl .tail sz (rows ++ more)
    | _ => False)
  | _, _ => False
/-- What an operation of such a region answers. -/
def qop0 (C : Ctx) (X : Fx) (o : Oper) (e : Env) (S : Store) (v : PV) : Prop :=
  match o.op with
  | .call c => (match c.callee with
    | .value (.func f) => PRet C.P f (cargs C false c.args.toList c.argTypes.toList e) S v
    | .builtin .append => False
    | .builtin _ => pop C o e = some v
    | _ => False)
  | .load t x => (match ev x e, C.T t with
    | .ref id off, some ti => (match S id with | some cells => pload ti (cells.map PV.bare) off = some v | none => False)
    | _, _ => pop C o e = some v)
  | .alloc t => ∃ ti d, C.T t = some ti ∧ o.dst = some d ∧ X.vars d = false ∧ v = .fresh ti.size
  | .store t (.tmp s) x => ∃ ti n cs, C.T t = some ti ∧ e s = .fresh n ∧ pcells (opd C t x e) = some cs ∧ cs.length = n ∧ ti.size = n ∧ o.dst = none ∧ v = (if X.mv s then .np cs else .ip cs 0)
  | .store .. => False
  | .box _ x => ∃ d cs, o.dst = some d ∧ X.vars d = false ∧ pcells (ev x e) = some cs ∧ v = (if X.mv d then .np cs else .ip cs 0)
  | .move (.const (.slice none 0 0)) => (match o.dst with | some d => X.vars d = false | none => False) ∧ pop C o e = some v
  | .assign (.const (.slice none 0 0)) => (match o.dst with | some d => X.vars d = false | none => False) ∧ pop C o e = some v
  | _ => pop C o e = some v

def qop (C : Ctx) (X : Fx) (o : Oper) (e : Env) (S : Store) (v : PV) : Prop :=
  match mvr X o with
  | some _ => qmv C X o e S v
  | none => qop0 C X o e S v

theorem mvr_some {s : Nat} (h : mvr X o = some s) : (o.op = .move (.tmp s) ∧ ∃ d, o.dst = some d ∧ X.mv d = true) ∨ (o.op = .assign (.tmp s) ∧ ∃ d, o.dst = some d ∧ X.mv d = true) ∨
    ∃ xs ts l d, o.op = .call ⟨.builtin .append, xs, ts⟩ ∧ xs.toList = .tmp s :: l ∧ o.dst = some d := by
  unfold mvr at h
  split at h
  · rename_i s' d ho hd
    split at h
    · rename_i hm; injection h with h; subst h; exact .inl ⟨ho, d, hd, hm⟩
    · cases h
  · rename_i s' d ho hd
    split at h
    · rename_i hm; injection h with h; subst h; exact .inr (.inl ⟨ho, d, hd, hm⟩)
    · cases h
  · rename_i xs ts d ho hd
    split at h
    · rename_i s' l hx; injection h with h; subst h; exact .inr (.inr ⟨xs, ts, l, d, ho, hx, hd⟩)
    · cases h
  · cases h
theorem mvr_looks {s : Nat} {all : List Oper} (h : mvr X o = some s) : s ∈ looks all o := by
  unfold looks
  refine List.mem_append_left _ ?_
  unfold opTmps
  simp only [List.mem_filterMap]
  refine ⟨.tmp s, ?_, rfl⟩
  rcases mvr_some h with ⟨ho, _⟩ | ⟨ho, _⟩ | ⟨xs, ts, l, d, ho, hx, _⟩
  · rw [ho]; simp [Op.operands]
  · rw [ho]; simp [Op.operands]
  · rw [ho]
    simp only [Op.operands, Call.operands]
    have : Operand.tmp s ∈ xs.toList := by rw [hx]; exact List.mem_cons_self
    simp
    simpa using this

theorem qmv_vop {K : Env → Store → Prop} {d s : Nat} {v : PV} (hm : mvr X o = some s) (hod : ods o = some d) (hdn : d < X.n) (hq : qmv C X o e S v) (hK : K (effG (some s) d e v) S) : vop C X o K e S := by
  unfold qmv at hq
  rcases mvr_some hm with ⟨ho, d', hd, hmv⟩ | ⟨ho, d', hd, hmv⟩ | ⟨xs, ts, l, d', ho, hx, hd⟩
  · rw [ods_some hd] at hod
    injection hod with hod
    subst hod
    rw [ho, hd] at hq
    obtain ⟨h1, h2, rfl⟩ := hq
    unfold vop
    rw [ho]
    dsimp only
    unfold vMove
    rw [hd]
    dsimp only
    rw [if_pos hmv, if_pos ⟨hdn, h1, h2⟩]
    exact hK
  · rw [ods_some hd] at hod
    injection hod with hod
    subst hod
    rw [ho, hd] at hq
    obtain ⟨h1, h2, rfl⟩ := hq
    unfold vop
    rw [ho]
    dsimp only
    unfold vMove
    rw [hd]
    dsimp only
    rw [if_pos hmv, if_pos ⟨hdn, h1, h2⟩]
    exact hK
  · rw [ods_some hd] at hod
    injection hod with hod
    subst hod
    rw [ho, hd] at hq
    dsimp only at hq
    rw [hx] at hq
    split at hq
    · rename_i s' x hxs
      injection hxs with h1 h2
      injection h1 with h1
      subst h1
      obtain ⟨hv, hs, sz, rows, more, hp, rfl⟩ := hq
      unfold vop
      rw [ho]
      dsimp only
      unfold vCall
      dsimp only
      unfold vAppend
      rw [hd, hx, h2]
      dsimp only
      rw [if_neg (by rw [hv]; simp), hp]
      dsimp only
      rw [if_pos ⟨hdn, hs⟩]
      exact hK
    · exact hq.elim

theorem qop_vop {K : Env → Store → Prop} {d : Nat} {v : PV} (hod : ods o = some d) (hdn : d < X.n) (hmv0 : o.dst = none ∨ mvOk X o d) (hq : qop C X o e S v) (hK : K (effG (mvr X o) d e v) S) : vop C X o K e S := by
  unfold qop at hq
  cases hmr : mvr X o with
  | some s =>
    rw [hmr] at hq hK
    exact qmv_vop hmr hod hdn hq hK
  | none =>
  rw [hmr] at hq hK
  dsimp only at hq
  change K (e.put d v) S at hK
  by_cases hst : ∃ t s x, o.op = .store t (.tmp s) x ∧ o.dst = none
  · obtain ⟨t, s, x, hop, hdn0⟩ := hst
    have hds : ods o = some s := by unfold ods; rw [hdn0, hop]
    rw [hds] at hod
    injection hod with hod
    subst hod
    unfold qop0 at hq
    rw [hop] at hq
    obtain ⟨ti, n, cs, h1, h2, h3, h4, h5, h6, rfl⟩ := hq
    unfold vop
    rw [hop]
    dsimp only
    simp only [vStore, h6, h1, h3, h2]
    rw [if_pos ⟨h4, h5, hdn⟩]
    exact hK
  have hd : o.dst = some d := by
    unfold ods at hod
    split at hod
    · rename_i d' hd'; rw [hd']; exact hod
    · rename_i hn
      split at hod
      · rename_i t s x hop; exact absurd ⟨t, s, x, hop, hn⟩ hst
      · cases hod
  by_cases hbx : ∃ t x, o.op = .box t x
  · obtain ⟨t, x, hop⟩ := hbx
    unfold qop0 at hq
    rw [hop] at hq
    obtain ⟨d', cs, h1, h2, h3, rfl⟩ := hq
    rw [hd] at h1
    injection h1 with h1
    subst h1
    unfold vop
    rw [hop]
    dsimp only
    unfold vBox
    rw [hd]
    dsimp only
    rw [if_neg (by rw [h2]; simp)]
    cases hm : X.mv d with
    | true =>
      rw [if_pos rfl, h3]
      dsimp only
      rw [if_pos hdn]
      rw [hm] at hK
      exact hK
    | false =>
      rw [if_neg (by simp)]
      rw [hm] at hK
      have : pop C o e = some (.ip cs 0) := by
        unfold pop
        rw [hop]
        dsimp only
        rw [h3]
        rfl
      rw [this]
      simp only [vPut]
      rw [if_pos hdn]
      exact hK
  have hmv : X.mv d = false := by
    rcases hmv0 with h | h
    · rw [hd] at h; cases h
    · rcases h with h | h | h
      · exact h
      · unfold isBox at h
        split at h
        · rename_i t x hop; exact absurd ⟨t, x, hop⟩ hbx
        · cases h
      · rw [hmr] at h; cases h
  have put : ∀ {q : Option PV}, q = some v → vPut X (some d) q K e S := by
    intro q hq
    subst hq
    simp only [vPut]
    rw [if_pos hdn]
    exact hK
  have pp : pop C o e = some v → vPut X o.dst (pop C o e) K e S := fun h => by rw [hd]; exact put h
  unfold qop0 at hq
  unfold vop
  split at hq
  · rename_i c hop
    rw [hop]
    dsimp only
    unfold vCall
    split at hq
    · rename_i f hc
      rw [hc]
      dsimp only
      have hm : mvd X o.dst = false := by rw [hd]; exact hmv
      rw [if_pos (by rw [hm, hd]; simp [dstOk, hdn])]
      rw [hm]
      refine hq _ ?_
      simp only [retK, afterCall, Bool.false_eq_true, if_false, hd, Env.putO]
      exact hK
    · exact hq.elim
    · rename_i b hne hc
      rw [hc]
      cases b <;> first | exact absurd rfl hne | exact pp hq
    · exact hq.elim
  · rename_i t x hop
    rw [hop]
    dsimp only
    unfold vLoad
    split at hq
    · rename_i id off ti h1 h2
      rw [h1, h2]
      dsimp only
      split at hq
      · rename_i cells hS
        rw [hS]
        dsimp only
        rw [hd]
        simp only [vTake, hmv, Bool.false_eq_true, if_false]
        exact put hq
      · exact hq.elim
    · rename_i hne
      split
      · rename_i id off ti h1 h2
        exact (hne id off ti h1 h2).elim
      · exact pp hq
  · rename_i t hop
    obtain ⟨ti, d', h1, h2, h3, rfl⟩ := hq
    rw [hd] at h2
    injection h2 with h2
    subst h2
    rw [hop]
    dsimp only
    simp only [vAlloc, hd, h1, h3, Bool.false_eq_true, if_false]
    rw [if_pos hdn]
    exact hK
  · rename_i hop
    obtain ⟨ti, n, cs, h1, h2, h3, h4, h5, h6, _⟩ := hq
    rw [hd] at h6
    cases h6
  · exact hq.elim
  · rename_i t x hop
    exact absurd ⟨t, x, hop⟩ hbx
  · rename_i hop
    rw [hop]
    dsimp only
    rw [hd] at hq
    have h1 : X.vars d = false := hq.1
    simp only [vMove, hd, h1, Bool.false_eq_true, if_false]
    exact put hq.2
  · rename_i hop
    rw [hop]
    dsimp only
    rw [hd] at hq
    have h1 : X.vars d = false := hq.1
    simp only [vMove, hd, h1, Bool.false_eq_true, if_false]
    exact put hq.2
  · rename_i h1 h2 h3 h4a h4 h5 h6 h7
    have mv : ∀ x, (o.op = .move x ∨ o.op = .assign x) → vMove C X o x K e S := by
      intro x hx
      unfold vMove
      rw [hd]
      split
      · rename_i d' s hd'
        injection hd' with hd'
        subst hd'
        rw [if_neg (by rw [hmv]; simp), if_pos hdn]
        have : pop C o e = some (e s).bare := by
          unfold pop
          rcases hx with hx | hx <;> (rw [hx]; rfl)
        rw [this] at hq
        injection hq with hq
        rw [hq]
        exact hK
      · rename_i d' hd'
        injection hd' with hd'
        subst hd'
        rcases hx with hx | hx
        · exact absurd hx h6
        · exact absurd hx h7
      · exact put hq
    split
    · rename_i h; exact absurd h (h3 _)
    · rename_i h; exact absurd h (h5 _ _)
    · rename_i h; exact absurd h (h4 _ _ _)
    · rename_i h; exact absurd h (h2 _ _)
    · rename_i x h; exact mv x (.inl h)
    · rename_i x h; exact mv x (.inr h)
    · rename_i h; exact absurd h (h1 _)
    · unfold vBin
      rw [hq, hd]
      dsimp only
      exact put rfl
    · simp only [vBuild, hd, hmv, Bool.false_eq_true, if_false]
      exact put hq
    · exact pp hq

/-! ### what an operation answers hangs on what it looks at alone -/
theorem ev_congr {e e' : Env} {x : Operand} (h : ∀ t, x = .tmp t → e' t = e t) : ev x e' = ev x e := by
  cases x with
  | tmp t => exact h t rfl
  | const v => rfl
  | global q => rfl
  | func f => rfl
theorem opd_congr {e e' : Env} {x : Operand} {t : TypeId} (h : ∀ t, x = .tmp t → e' t = e t) : opd C t x e' = opd C t x e := by
  unfold opd
  split
  · rfl
  · rename_i s; rw [h s rfl]
  · exact ev_congr h

theorem mem_opTmps {xs : List Operand} {t : Nat} : t ∈ opTmps xs ↔ .tmp t ∈ xs := by
  unfold opTmps
  simp only [List.mem_filterMap]
  constructor
  · rintro ⟨x, hx, h⟩
    cases x <;> simp at h
    subst h
    exact hx
  · intro h
    exact ⟨_, h, rfl⟩

theorem pop_congr {e e' : Env} (h : ∀ t, t ∈ opTmps o.op.operands.toList → e' t = e t) : pop C o e' = pop C o e := by
  have key : ∀ x, x ∈ o.op.operands.toList → ev x e' = ev x e := fun x hx => ev_congr fun t ht => h t (mem_opTmps.2 (ht ▸ hx))
  have keyo : ∀ t x, x ∈ o.op.operands.toList → opd C t x e' = opd C t x e := fun t x hx => opd_congr fun t ht => h t (mem_opTmps.2 (ht ▸ hx))
  have parts : ∀ ps : Array (Nat × Operand), (∀ p ∈ ps.toList, p.2 ∈ o.op.operands.toList) → (ps.toList.map fun p => (p.1, ev p.2 e')) = ps.toList.map fun p => (p.1, ev p.2 e) := by
    intro ps hp
    refine List.map_congr_left fun p hm => ?_
    rw [key _ (hp p hm)]
  unfold pop
  cases hop : o.op <;> rw [hop] at key keyo parts <;> simp only [Op.operands] at key keyo parts <;> try dsimp only
  case move x => rw [keyo _ x (by simp)]
  case assign x => rw [keyo _ x (by simp)]
  case pick c x y => rw [key c (by simp), key x (by simp), key y (by simp)]
  case nilCheck x => rw [key x (by simp)]
  case load t x => rw [key x (by simp)]
  case fieldAddr t x f => rw [key x (by simp)]
  case indexAddr t x i => rw [key x (by simp), key i (by simp)]
  case index t x i => rw [key x (by simp), key i (by simp)]
  case field t x f => rw [key x (by simp)]
  case binOp op t x y ty => rw [key x (by simp), key y (by simp)]
  case unOp op t x => rw [key x (by simp)]
  case convert s d x => rw [key x (by simp)]
  case extract x i => rw [key x (by simp)]
  case build t ps => rw [parts ps (fun p hp => by simp; exact ⟨p.1, by simpa using hp⟩)]
  case buildSlice t n ps => rw [parts ps (fun p hp => by simp; exact ⟨p.1, by simpa using hp⟩)]
  case box t x => rw [key x (by simp)]
  case slice t x lo hi mx =>
    have m : ∀ q : Option Operand, (∀ y, q = some y → y ∈ (#[x] ++ lo.toArray ++ hi.toArray ++ mx.toArray).toList) → q.map (ev · e') = q.map (ev · e) := by
      intro q hq
      cases q with
      | none => rfl
      | some y => simp only [Option.map_some]; rw [key y (hq y rfl)]
    rw [key x (by simp), m lo (fun y hy => by subst hy; simp), m hi (fun y hy => by subst hy; simp), m mx (fun y hy => by subst hy; simp)]
  case makeFunc f xs cs =>
    have m : ∀ q : Array Operand, (∀ y ∈ q.toList, y ∈ (xs ++ cs).toList) → (q.toList.map fun x => (ev x e').bare) = q.toList.map fun x => (ev x e).bare := by
      intro q hq
      exact List.map_congr_left fun y hy => by rw [key y (hq y hy)]
    rw [m xs (fun y hy => by simp at hy ⊢; exact .inl hy), m cs (fun y hy => by simp at hy ⊢; exact .inr hy)]
  case call c =>
    obtain ⟨cal, xs, ts⟩ := c
    cases cal <;> try dsimp only
    rename_i b
    have m : (xs.toList.map (ev · e')) = xs.toList.map (ev · e) := List.map_congr_left fun y hy => key y (by simp [Call.operands]; simpa using hy)
    rw [m]

theorem cargs_congr {e e' : Env} : ∀ (xs : List Operand) (ts : List TypeId), (∀ t, .tmp t ∈ xs → e' t = e t) → cargs C false xs ts e' = cargs C false xs ts e
  | [], _, _ => rfl
  | x :: xs, t :: ts, h => by
    simp only [cargs, carg]
    rw [opd_congr (fun s hs => h s (hs ▸ List.mem_cons_self ..)), cargs_congr xs ts (fun s hs => h s (List.mem_cons_of_mem _ hs))]
  | x :: xs, [], h => by
    simp only [cargs, carg]
    rw [opd_congr (fun s hs => h s (hs ▸ List.mem_cons_self ..)), cargs_congr xs [] (fun s hs => h s (List.mem_cons_of_mem _ hs))]

theorem qop0_congr {e e' : Env} {v : PV} (h : ∀ t, t ∈ opTmps o.op.operands.toList → e' t = e t) (hq : qop0 C X o e S v) : qop0 C X o e' S v := by
  have hp := pop_congr (C := C) h
  unfold qop0 at *
  rw [hp]
  split at hq
  · rename_i c hop
    split at hq
    · rename_i f hc
      rw [cargs_congr _ _ (fun t ht => h t (mem_opTmps.2 (by rw [hop]; simp [Op.operands, Call.operands]; exact .inr (by simpa using ht))))]
      exact hq
    · exact hq
    · exact hq
    · exact hq
  · rename_i t x hop
    have hx : ev x e' = ev x e := ev_congr fun s hs => h s (mem_opTmps.2 (by rw [hop, hs]; simp [Op.operands]))
    rw [hx]
    exact hq
  · exact hq
  · rename_i t s x hop
    have h1 : e' s = e s := h s (mem_opTmps.2 (by rw [hop]; simp [Op.operands]))
    have h2 : opd C t x e' = opd C t x e := opd_congr fun u hu => h u (mem_opTmps.2 (by rw [hop, hu]; simp [Op.operands]))
    rw [h1, h2]
    exact hq
  · exact hq
  · rename_i t x hop
    have hx : ev x e' = ev x e := ev_congr fun s hs => h s (mem_opTmps.2 (by rw [hop, hs]; simp [Op.operands]))
    rw [hx]
    exact hq
  · exact hq
  · exact hq
  · exact hq

theorem qop_congr {e e' : Env} {v : PV} (h : ∀ t, t ∈ opTmps o.op.operands.toList → e' t = e t) (hq : qop C X o e S v) : qop C X o e' S v := by
  unfold qop at *
  split at hq
  · rename_i s hm
    unfold qmv at *
    rcases mvr_some hm with ⟨ho, d', hd, hmv⟩ | ⟨ho, d', hd, hmv⟩ | ⟨xs, ts, l, d', ho, hx, hd⟩
    · rw [ho, hd] at hq ⊢
      dsimp only at hq ⊢
      rw [h s (mem_opTmps.2 (by rw [ho]; simp [Op.operands]))]
      exact hq
    · rw [ho, hd] at hq ⊢
      dsimp only at hq ⊢
      rw [h s (mem_opTmps.2 (by rw [ho]; simp [Op.operands]))]
      exact hq
    · rw [ho, hd] at hq ⊢
      dsimp only at hq ⊢
      split at hq
      · rename_i s' x hxs
        have hs : e' s' = e s' := h s' (mem_opTmps.2 (by rw [ho]; simp [Op.operands, Call.operands]; have : Operand.tmp s' ∈ xs.toList := by rw [hxs]; exact List.mem_cons_self
                                                         simpa using this))
        have hv : ev x e' = ev x e := ev_congr fun u hu => h u (mem_opTmps.2 (by rw [ho, ← hu]; simp [Op.operands, Call.operands]; have : x ∈ xs.toList := by rw [hxs]; simp
                                                                                 simpa using this))
        rw [hs, hv]
        exact hq
      · exact hq.elim
  · exact qop0_congr h hq

theorem vguard_congr {all : List Oper} {e e' : Env} (h : ∀ j want d, o.guard = some (j, want) → (all[j]?).bind (·.dst) = some d → e' d = e d) : vguard all o e' = vguard all o e := by
  unfold vguard
  split
  · rfl
  · rename_i j want hg
    split
    · rename_i d hd
      rw [h j want d hg hd]
    · rfl
end
end Go.VL
