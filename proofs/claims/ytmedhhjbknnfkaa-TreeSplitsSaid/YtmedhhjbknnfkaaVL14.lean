/- VL, part 14: calls. -/
import Derived.Test.YtmedhhjbknnfkaaVL13
set_option linter.unusedVariables false
set_option linter.unusedSimpArgs false
namespace Go.VL
open Go

section
variable {C : Ctx} {X : Fx} {o : Oper} {g : Gh} {w : World} {a : Act} {e : Env} {S : Store} {K : Env → Store → Prop} {R : Act → World → Prop} {Q : Exit → Act → World → Prop}

def toCallee (mv : Bool) (xs : List Operand) : Lab → Lab
  | .slot t => if mv then (match argPos xs t with | some j => .slot j | none => .foreign) else .foreign
  | l => l
def Gh.callee (g : Gh) (mv : Bool) (xs : List Operand) : Gh := { g with lab := fun b o => toCallee mv xs (g.lab b o) }
def fromCallee (d : Option Nat) : Lab → Lab
  | .slot _ => (match d with | some d => .slot d | none => .frozen)
  | l => l
def Gh.back (g gc g' : Gh) (d : Option Nat) : Gh := { g' with lab := fun b o => if gc.lab b o = .foreign then g.lab b o else fromCallee d (g'.lab b o) }

theorem toCallee_frozen {mv : Bool} {xs : List Operand} {l : Lab} : toCallee mv xs l = .frozen ↔ l = .frozen := by
  cases l <;> simp only [toCallee, reduceCtorEq]
  split
  · split <;> simp
  · simp
theorem toCallee_own {mv : Bool} {xs : List Operand} {l : Lab} (h : (toCallee mv xs l).own) : l.own := by
  cases l <;> simp [toCallee, Lab.own] at h ⊢
theorem toCallee_free {mv : Bool} {xs : List Operand} : toCallee mv xs .free = .free := rfl
theorem toCallee_foreign {mv : Bool} {xs : List Operand} : toCallee mv xs .foreign = .foreign := rfl
theorem toCallee_obj {mv : Bool} {xs : List Operand} {id : Nat} : toCallee mv xs (.obj id) = .obj id := rfl

theorem Rel.callee {mv : Bool} {xs : List Operand} {v : PV} {rv : Value} (h : Rel g w v rv) : Rel (g.callee mv xs) w v rv :=
  Rel.same (g := g) (g' := g.callee mv xs) (fun b o hl => toCallee_frozen.2 hl) (fun _ _ _ _ hc => hc) (fun _ _ => rfl) (Nat.le_refl _) (fun _ h => h) h

theorem cargs_length (C : Ctx) (mv : Bool) : ∀ (xs : List Operand) (ts : List TypeId) (e : Env), (cargs C mv xs ts e).length = xs.length
  | [], _, _ => rfl
  | x :: xs, t :: ts, e => by simp [cargs, cargs_length C mv xs ts e]
  | x :: xs, [], e => by simp [cargs, cargs_length C mv xs [] e]
theorem cargs_get (C : Ctx) (mv : Bool) : ∀ (xs : List Operand) (ts : List TypeId) (e : Env) (j : Nat) (x : Operand), xs[j]? = some x → ∃ t, (cargs C mv xs ts e)[j]? = some (carg C mv t x e)
  | [], _, _, j, x, h => by simp at h
  | y :: xs, t :: ts, e, 0, x, h => by simp at h; subst h; exact ⟨t, rfl⟩
  | y :: xs, t :: ts, e, j + 1, x, h => by
    obtain ⟨t', ht⟩ := cargs_get C mv xs ts e j x (by simpa using h)
    exact ⟨t', by simpa [cargs] using ht⟩
  | y :: xs, [], e, 0, x, h => by simp at h; subst h; exact ⟨0, rfl⟩
  | y :: xs, [], e, j + 1, x, h => by
    obtain ⟨t', ht⟩ := cargs_get C mv xs [] e j x (by simpa using h)
    exact ⟨t', by simpa [cargs] using ht⟩

theorem argPos_get : ∀ (xs : List Operand) (t j : Nat), argPos xs t = some j → xs[j]? = some (.tmp t)
  | [], t, j, h => by simp [argPos] at h
  | .tmp s :: xs, t, j, h => by
    simp only [argPos] at h
    split at h
    · rename_i hs; injection h with h; subst h; subst hs; rfl
    · cases hp : argPos xs t with
      | none => rw [hp] at h; cases h
      | some i => rw [hp] at h; injection h with h; subst h; simpa using argPos_get xs t i hp
  | .const v :: xs, t, j, h => by
    simp only [argPos] at h
    cases hp : argPos xs t with
    | none => rw [hp] at h; cases h
    | some i => rw [hp] at h; injection h with h; subst h; simpa using argPos_get xs t i hp
  | .global v :: xs, t, j, h => by
    simp only [argPos] at h
    cases hp : argPos xs t with
    | none => rw [hp] at h; cases h
    | some i => rw [hp] at h; injection h with h; subst h; simpa using argPos_get xs t i hp
  | .func v :: xs, t, j, h => by
    simp only [argPos] at h
    cases hp : argPos xs t with
    | none => rw [hp] at h; cases h
    | some i => rw [hp] at h; injection h with h; subst h; simpa using argPos_get xs t i hp
theorem argPos_some : ∀ (xs : List Operand) (t j : Nat), xs[j]? = some (.tmp t) → (argPos xs t).isSome = true
  | [], t, j, h => by simp at h
  | x :: xs, t, 0, h => by
    simp at h; subst h
    simp [argPos]
  | x :: xs, t, j + 1, h => by
    have ih := argPos_some xs t j (by simpa using h)
    cases x <;> simp only [argPos] <;> (try split) <;> simp [ih]
theorem apart_pos : ∀ (xs : List Operand) (t j : Nat), apart xs = true → xs[j]? = some (.tmp t) → argPos xs t = some j
  | [], t, j, _, h => by simp at h
  | x :: xs, t, 0, ha, h => by
    simp at h; subst h
    simp [argPos]
  | x :: xs, t, j + 1, ha, h => by
    have h' : xs[j]? = some (.tmp t) := by simpa using h
    cases x with
    | tmp s =>
      simp only [apart, Bool.and_eq_true, Option.isNone_iff_eq_none] at ha
      have ih := apart_pos xs t j ha.2 h'
      have hne : ¬ s = t := fun e1 => by
        subst e1
        have := argPos_some xs s j h'
        rw [ha.1] at this
        cases this
      simp only [argPos]
      rw [if_neg hne, ih]
      rfl
    | const v => simp only [argPos, apart] at ha ⊢; rw [apart_pos xs t j ha h']; rfl
    | global v => simp only [argPos, apart] at ha ⊢; rw [apart_pos xs t j ha h']; rfl
    | func v => simp only [argPos, apart] at ha ⊢; rw [apart_pos xs t j ha h']; rfl

theorem Tail.relab {g' : Gh} {t t' : Nat} {v : PV} {rv : Value} (hk : ∀ b o, g.lab b o = .slot t → g'.lab b o = .slot t') (h : Tail g w t v rv) (hn : g'.nxt = g.nxt := by rfl) (hlo : g'.loc = g.loc := by rfl) : Tail g' w t' v rv := by
  unfold Tail at *
  split at h
  · exact ⟨h.1, fun k h1 h2 => ⟨hk _ _ (h.2 k h1 h2).1, (h.2 k h1 h2).2⟩⟩
  · exact ⟨by rw [hn, hlo]; exact h.1, fun k h1 h2 => ⟨hk _ _ (h.2 k h1 h2).1, (h.2 k h1 h2).2⟩⟩
  · exact ⟨h.1, fun k h1 => ⟨hk _ _ (h.2 k h1).1, (h.2 k h1).2⟩⟩
  · trivial

theorem opd_tail (h : St X.n g w e S a.tmps) (t : TypeId) (x : Operand) (d : Nat) (gg : Gh) : Tail gg w d (opd C t x e) (a.eval x) := by
  unfold opd
  split
  · exact (nilOf_top (g := gg) (w := w) C t d).tail
  · exact Tail.bare _ _ _ _ _
  · rename_i h1 h2
    cases x with
    | tmp s => exact absurd rfl (h2 s)
    | const v => exact (pvc_top (g := gg) (w := w) v d).tail
    | global q => simp [ev, Tail]
    | func f => simp [ev, Tail]

theorem St.enter (h : St X.n g w e S a.tmps) (mv : Bool) (xs : List Operand) (ts : List TypeId) (ha : mv = true → apart xs = true) :
    St (cargs C mv xs ts e).length (g.callee mv xs) w (argEnv (cargs C mv xs ts e)) S (xs.map a.eval).toArray where
  size := by simp [cargs_length]
  slots j hj := by
    rw [cargs_length] at hj
    have hx : xs[j]? = some xs[j] := List.getElem?_eq_getElem hj
    obtain ⟨t, ht⟩ := cargs_get C mv xs ts e j _ hx
    have e1 : argEnv (cargs C mv xs ts e) j = carg C mv t xs[j] e := by
      simp only [argEnv, List.getD_eq_getElem?_getD, ht]
      rfl
    have e2 : (xs.map a.eval).toArray.getD j Go.undef = a.eval xs[j] := by
      simp [Array.getD, hj]
    rw [e1, e2]
    generalize hxj : xs[j] = x at *
    unfold carg
    split
    · rename_i s
      have htop := h.top s
      refine ⟨htop.rel.callee, htop.tail.relab fun b o hl => ?_⟩
      simp only [Gh.callee, hl, toCallee, if_true]
      rw [apart_pos xs s j (ha rfl) hx]
    · exact ⟨.nils, by simp [Tail]⟩
    · exact ⟨(opd_top h t x 0).rel.callee, opd_tail h t x j _⟩
  beyond j hj := by
    rw [cargs_length] at hj
    simp only [argEnv, List.getD_eq_getElem?_getD]
    rw [List.getElem?_eq_none (by rw [cargs_length]; exact hj)]
    rfl
  objs id cells hi := by
    have hob := h.objs id cells hi
    refine ⟨hob.lt, fun k v hk => ?_⟩
    obtain ⟨h1, h2, rv, h3, h4, h5, h6⟩ := hob.cell k v hk
    exact ⟨by show toCallee mv xs (g.lab (g.loc id).1 ((g.loc id).2 + k)) = _; rw [h1]; rfl, h2, rv, h3, h4, h5.callee, h6.map fun b o ⟨c1, c2⟩ => ⟨by show toCallee mv xs (g.lab b o) = _; rw [c1]; rfl, c2⟩⟩
  new b o hb := by
    show toCallee mv xs (g.lab b o) = _
    rw [h.new b o hb]; rfl

theorem back_fr {g' : Gh} {w' : World} {mv : Bool} {xs : List Operand} (fr : Fr (g.callee mv xs) g' w w') (d : Option Nat) : Fr g (g.back (g.callee mv xs) g' d) w w' where
  os := fr.os
  tape := fr.tape
  output := fr.output
  size := fr.size
  frozen b o hl := by
    have h1 : (g.callee mv xs).lab b o = .frozen := toCallee_frozen.2 hl
    simp only [Gh.back]
    rw [if_neg (by rw [h1]; simp), fr.frozen b o h1]
    rfl
  foreign b o hl := by
    have h1 : (g.callee mv xs).lab b o = .foreign := by show toCallee mv xs (g.lab b o) = _; rw [hl]; rfl
    simp only [Gh.back]
    rw [if_pos h1]
    exact hl
  own b o hb hl := by
    simp only [Gh.back] at hl
    split at hl
    · exact hl
    · have : (g'.lab b o).own := by
        cases hg : g'.lab b o <;> rw [hg] at hl <;> simp only [fromCallee] at hl <;> first | exact hl | trivial
      exact toCallee_own (fr.own b o hb this)
  kept b o hb hl := fr.kept b o hb (fun h => hl (toCallee_own h))
  mark := fr.mark
  some := fr.some
  block b hb hl := fr.block b hb (fun o h => hl o (toCallee_own h))
  loc := fr.loc
  nxt := fr.nxt

theorem back_keep {g' : Gh} {w' : World} {mv : Bool} {xs : List Operand} (fr : Fr (g.callee mv xs) g' w w') (d : Option Nat) {b o : Nat} {l : Lab} (hl : g'.lab b o = l) (hf : l ≠ .foreign) : (g.back (g.callee mv xs) g' d).lab b o = fromCallee d l := by
  simp only [Gh.back]
  rw [if_neg (fun h => hf (hl ▸ fr.foreign b o h)), hl]

theorem vCall_sound {c : Call} (ho : o.op = .call c) (h : St X.n g w e S a.tmps) (hv : vCall C X o c K e S) (hR : Goes X g w a K R) : o.wp C.P a w R Q := by
  unfold vCall at hv
  split at hv
  · rename_i hc
    obtain ⟨cal, xs, ts⟩ := c
    dsimp only at hc
    subst hc
    exact vAppend_sound ho h hv hR
  · exact vPop_sound h hv hR
  · rename_i f hc
    obtain ⟨cal, xs, ts⟩ := c
    dsimp only at hc hv
    subst hc
    split at hv
    · rename_i hok
      simp only [Bool.and_eq_true, Bool.or_eq_true, Bool.not_eq_true'] at hok
      obtain ⟨hd, hap⟩ := hok
      obtain ⟨⟨fn, hf1, hf2, hf3⟩, hcall⟩ := hv
      have hent := h.enter (C := C) (mvd X o.dst) xs.toList ts.toList (fun hm => by
        rcases hap with h1 | h1
        · rw [hm] at h1; cases h1
        · exact h1)
      have hargs : (xs.toList.map a.eval).toArray = xs.map a.eval := by
        apply Array.ext'
        simp
      rw [hargs] at hent
      have hrun : (execOp a.eval o).run C.P w = .ok (.enter f (xs.map a.eval)) w := by
        simp only [execOp, ho, resolve, invoke, Sem.run_bind, Sem.run_pure, Result.andThen_ok, Act.eval, Deferred.ofValue, callFunc, program, Sem.run, hf1, hf2, hf3, Bool.false_eq_true, if_false]
        simp
      unfold Oper.wp
      rw [hrun, Oper.upon_enter]
      refine (hcall _ _ _ hent).mono ?_
      rintro en w' ⟨rv, v, S', g', rfl, hK, fr, htop, hobjs, hnew⟩
      dsimp only
      have frb := back_fr fr o.dst
      refine hR _ _ (g.back (g.callee (mvd X o.dst) xs.toList) g' o.dst) w' _ hK ?_ (put_defers _ _ _) frb
      -- the slots of the caller
      have hst : St X.n (g.back (g.callee (mvd X o.dst) xs.toList) g' o.dst) w' (afterCall (mvd X o.dst) xs.toList e) S' a.tmps := by
        refine ⟨h.size, fun t ht => ?_, fun t ht => ?_, fun id cells hi => ?_, fun b o' hb => ?_⟩
        · have htt := h.slots t ht
          have keep : (mvd X o.dst = false ∨ argPos xs.toList t = none) → Top (g.back (g.callee (mvd X o.dst) xs.toList) g' o.dst) w' t (e t) (a.tmps.getD t Go.undef) := by
            intro hun
            refine ⟨htt.rel.mono frb, ?_⟩
            have key : ∀ b o', g.lab b o' = .slot t → (g.back (g.callee (mvd X o.dst) xs.toList) g' o.dst).lab b o' = .slot t := by
              intro b o' hl
              have hfo : (g.callee (mvd X o.dst) xs.toList).lab b o' = .foreign := by
                show toCallee _ _ (g.lab b o') = _
                rw [hl]
                simp only [toCallee]
                rcases hun with h1 | h1
                · rw [h1]; rfl
                · rw [h1]; split <;> rfl
              simp only [Gh.back]
              rw [if_pos hfo]
              exact hl
            have htl := htt.tail
            unfold Tail at *
            split at htl
            · refine ⟨htl.1, fun k h1 h2 => ?_⟩
              obtain ⟨q1, q2, q3⟩ := htl.2 k h1 h2
              exact ⟨key _ _ q1, fr.some _ _ q2, (fr.mark _ _ (lt_of_isSome q2)).trans q3⟩
            · refine ⟨⟨htl.1.1, Nat.lt_of_lt_of_le htl.1.2.1 frb.nxt, by rw [frb.loc _ htl.1.2.1]; exact htl.1.2.2⟩, fun k h1 h2 => ?_⟩
              obtain ⟨q1, q2, q3⟩ := htl.2 k h1 h2
              exact ⟨key _ _ q1, fr.some _ _ q2, (fr.mark _ _ (lt_of_isSome q2)).trans q3⟩
            · refine ⟨⟨htl.1.1, fr.noMark htl.1.2⟩, fun k h1 => ?_⟩
              obtain ⟨q1, q2, q3⟩ := htl.2 k h1
              exact ⟨key _ _ q1, fr.some _ _ q2, (fr.mark _ _ (lt_of_isSome q2)).trans q3⟩
            · trivial
          unfold afterCall
          split
          · dsimp only
            split
            · exact ⟨htt.rel.bare.mono frb, Tail.bare _ _ _ _ _⟩
            · rename_i hs
              exact keep (.inr (by simpa using hs))
          · rename_i hm
            exact keep (.inl (by simpa using hm))
        · unfold afterCall
          split
          · dsimp only
            split
            · rw [h.beyond t ht]; rfl
            · exact h.beyond t ht
          · exact h.beyond t ht
        · have hob := hobjs id cells hi
          refine ⟨hob.lt, fun k v hk => ?_⟩
          obtain ⟨h1, h2, rv, h3, h4, h5, h6⟩ := hob.cell k v hk
          refine ⟨back_keep fr o.dst h1 (by simp), h2, rv, h3, h4, h5.same (fun b o' hl => back_keep fr o.dst hl (by simp)) (fun _ _ _ _ hc => hc) (fun _ _ => rfl) (Nat.le_refl _) (fun _ h => h), h6.map fun b o' ⟨c1, c2⟩ => ⟨back_keep fr o.dst c1 (by simp), c2⟩⟩
        · have h1 := hnew b o' hb
          exact back_keep fr o.dst h1 (by simp)
      have hback : ∀ d, o.dst = some d → Top (g.back (g.callee (mvd X o.dst) xs.toList) g' o.dst) w' d v rv := by
        intro d hdst
        refine ⟨htop.rel.same (fun b o' hl => back_keep fr o.dst hl (by simp)) (fun _ _ _ _ hc => hc) (fun _ _ => rfl) (Nat.le_refl _) (fun _ h => h), htop.tail.relab fun b o' hl => ?_⟩
        rw [back_keep fr o.dst hl (by simp), hdst]
        rfl
      revert hst hback hd
      generalize g.back (g.callee (mvd X o.dst) xs.toList) g' o.dst = gb
      generalize afterCall (mvd X o.dst) xs.toList e = eb
      intro hd hst hback
      cases hdst : o.dst with
      | none => exact hst
      | some d =>
        rw [hdst] at hd
        rw [put_tmps]
        exact hst.put (by simpa [dstOk] using hd) (hback d hdst)
    · exact hv.elim
  · exact hv.elim
end
end Go.VL
