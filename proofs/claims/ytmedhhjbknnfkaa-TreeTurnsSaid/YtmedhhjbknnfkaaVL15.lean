/- VL, part 15: regions in the order of the text; code; functions. -/
import Derived.Test.YtmedhhjbknnfkaaVL14
set_option linter.unusedVariables false
set_option linter.unusedSimpArgs false
namespace Go.VL
open Go

section
variable {C : Ctx} {X : Fx} {o : Oper} {g : Gh} {w : World} {a : Act} {e : Env} {S : Store} {K : Env → Store → Prop} {R : Act → World → Prop} {Q : Exit → Act → World → Prop}

theorem equal_nil {t el : TypeId} (hu : C.P.underlying t = some (.slice el)) (b : Option Addr) (l c : Nat) : (Op.equal t (.slice b l c) (.slice none 0 0)).run C.P w = .ok b.isNone w := by
  rw [equal_succ, Op.equalIn]
  cases b <;> simp only [Sem.run_bind, run_underlying hu, Result.andThen_ok, Sem.run_pure, Option.isNone_none, Option.isNone_some]

/-- Two pointers to what never changes: are they one? -/
theorem equal_np {t : TypeId} (hz : C.Z t = true) {c c' : List PV} (h1 : c ≠ []) (h2 : c' ≠ []) {rx ry : Value} (hx : Rel g w (.np c) rx) (hy : Rel g w (.np c') ry) :
    ∃ (b : Bool) (p q : Option Addr), rx = .pointer p ∧ ry = .pointer q ∧ (Op.equal t (.pointer p) (.pointer q)).run C.P w = .ok b w ∧ (b = true → Alike (.np c) (.np c')) := by
  obtain ⟨el, i, hu, hi, hsz⟩ := C.hZ t hz
  have hx0 := hx
  have hy0 := hy
  have block : ∀ {b o : Nat} {v : Value}, w.cell? ⟨b, o, none⟩ = some v → NoMark w b → ∃ cs ty lo hi, w.heap[b]? = some (.cells cs ty (lo, hi)) ∧ ∀ o : Nat, ¬ (lo ≤ o ∧ o < hi) := by
    intro b o v hc hm
    unfold World.cell? at hc
    split at hc
    · rename_i cs ty fr hb
      obtain ⟨lo, hi⟩ := fr
      refine ⟨cs, ty, lo, hi, hb, fun o ho => ?_⟩
      have := hm.2 o
      simp only [World.frozen?, hb] at this
      simp [ho.1, ho.2] at this
    · cases hc
  cases hx with
  | @np _ b o f hm hf hr =>
    cases hy with
    | @np _ b' o' f' hm' hf' hr' =>
      obtain ⟨u, c, rfl⟩ : ∃ u l, c = u :: l := by cases c with | nil => exact absurd rfl h1 | cons u l => exact ⟨u, l, rfl⟩
      obtain ⟨u', c', rfl⟩ : ∃ u l, c' = u :: l := by cases c' with | nil => exact absurd rfl h2 | cons u l => exact ⟨u, l, rfl⟩
      obtain ⟨cs, ty, lo, hi', hb1, hb2⟩ := block (hf 0 u rfl).2.1 hm
      obtain ⟨cs', ty', lo', hi2, hb1', hb2'⟩ := block (hf' 0 u' rfl).2.1 hm'
      have e1 : ∀ o : Nat, (decide (lo ≤ o) && decide (o < hi')) = false := fun o => by
        have := hb2 o
        by_cases h1 : lo ≤ o <;> by_cases h2 : o < hi' <;> simp_all
      have e2 : ∀ o : Nat, (decide (lo' ≤ o) && decide (o < hi2)) = false := fun o => by
        have := hb2' o
        by_cases h1 : lo' ≤ o <;> by_cases h2 : o < hi2 <;> simp_all
      have hsame : (sameAddr ⟨b, o, none⟩ ⟨b', o', none⟩).run C.P w = .ok (decide (b = b' ∧ o = o')) w := by
        by_cases hbl : b = b'
        · subst hbl
          by_cases hoo : o = o'
          · subst hoo
            simp [sameAddr]
          · simp [sameAddr, hoo]
        · simp [sameAddr, hbl, World.frozen?, hb1, hb1', noView, viewAt, World.shape?, mayBeOne, stringish, e1, e2]
      refine ⟨decide (b = b' ∧ o = o'), _, _, rfl, rfl, ?_, fun hb => ?_⟩
      · rw [equal_succ, Op.equalIn]
        simp only [Sem.run_bind, run_underlying hu, Result.andThen_ok, sizeOf, typeInfo, Sem.run_pure, run_program, hi]
        rw [if_pos (by simpa using hsz)]
        exact hsame
      · obtain ⟨rfl, rfl⟩ := of_decide_eq_true hb
        exact ⟨g, w, _, hx0, hy0⟩

theorem vBin_sound {op : BinOp} {t ty : TypeId} {x y : Operand} (ho : o.op = .binOp op t x y ty) (h : St X.n g w e S a.tmps) (hv : vBin C X o op t x y K e S) (hR : Goes X g w a K R) : o.wp C.P a w R Q := by
  unfold vBin at hv
  split at hv
  · rename_i v hp
    exact vPop_sound h (by rw [hp]; exact hv) hR
  · unfold vSame at hv
    split at hv
    · rename_i el _ _ _ f sz rows d hT hx hd
      split at hv
      · rename_i hdn
        have hu := und_slice (C := C) hT rfl
        have hr := h.ev x
        rw [hx] at hr
        obtain ⟨b, l, c, hrv, hb⟩ : ∃ (b : Option Addr) (l c : Nat), a.eval x = .slice b l c ∧ (b.isNone = true → rows = []) := by
          rcases sl_parts hr with ⟨h1, h2⟩ | ⟨b, o', sp, cap, h1, _, _⟩
          · exact ⟨none, 0, 0, h1, fun _ => h2⟩
          · exact ⟨_, _, _, h1, fun h => by cases h⟩
        have hy0 : a.eval (.const (.slice none 0 0)) = .slice none 0 0 := rfl
        have hrun : (execOp a.eval o).run C.P w = .ok (.value (.bool b.isNone)) w := by
          simp only [execOp, ho, hrv, hy0, Sem.run_bind, eqGuard_plain .eql t x _ (.slice b l c) _ (by simp) (by simp), Result.andThen_ok, Sem.run_pure]
          simp only [binOp, Sem.run_bind, equal_nil hu, Result.andThen_ok, Sem.run_pure]
        exact vPut_sound hd hdn (hv _ hb) h hrun (Quiet.refl h.new) ⟨.bool _, by simp [Tail]⟩ hR
      · exact hv.elim
    · rename_i el _ _ _ f sz rows d hT hx hd
      split at hv
      · rename_i hdn
        have hu := und_slice (C := C) hT rfl
        have hr := h.ev x
        rw [hx] at hr
        obtain ⟨b, l, c, hrv, hb⟩ : ∃ (b : Option Addr) (l c : Nat), a.eval x = .slice b l c ∧ (b.isNone = true → rows = []) := by
          rcases sl_parts hr with ⟨h1, h2⟩ | ⟨b, o', sp, cap, h1, _, _⟩
          · exact ⟨none, 0, 0, h1, fun _ => h2⟩
          · exact ⟨_, _, _, h1, fun h => by cases h⟩
        have hy0 : a.eval (.const (.slice none 0 0)) = .slice none 0 0 := rfl
        have hrun : (execOp a.eval o).run C.P w = .ok (.value (.bool !b.isNone)) w := by
          simp only [execOp, ho, hrv, hy0, Sem.run_bind, eqGuard_plain .neq t x _ (.slice b l c) _ (by simp) (by simp), Result.andThen_ok, Sem.run_pure]
          simp only [binOp, Sem.run_bind, equal_nil hu, Result.andThen_ok, Sem.run_pure]
        exact vPut_sound hd hdn (hv _ hb) h hrun (Quiet.refl h.new) ⟨.bool _, by simp [Tail]⟩ hR
      · exact hv.elim
    · rename_i el _ _ _ f id off len sz d hT hx hd
      split at hv
      · rename_i hdn
        have hu := und_slice (C := C) hT rfl
        have hr := h.ev x
        rw [hx] at hr
        obtain ⟨b, l, c, hrv, hb⟩ : ∃ (b : Option Addr) (l c : Nat), a.eval x = .slice b l c ∧ (b.isNone = true → len = 0) := by
          generalize a.eval x = q at hr
          cases hr with
          | arr0 f id off sz ad cap h => exact ⟨ad, _, cap, rfl, fun _ => rfl⟩
          | arr f h1 h2 => exact ⟨_, _, _, rfl, fun h => by cases h⟩
        have hy0 : a.eval (.const (.slice none 0 0)) = .slice none 0 0 := rfl
        have hrun : (execOp a.eval o).run C.P w = .ok (.value (.bool b.isNone)) w := by
          simp only [execOp, ho, hrv, hy0, Sem.run_bind, eqGuard_plain .eql t x _ (.slice b l c) _ (by simp) (by simp), Result.andThen_ok, Sem.run_pure]
          simp only [binOp, Sem.run_bind, equal_nil hu, Result.andThen_ok, Sem.run_pure]
        exact vPut_sound hd hdn (hv _ hb) h hrun (Quiet.refl h.new) ⟨.bool _, by simp [Tail]⟩ hR
      · exact hv.elim
    · rename_i el _ _ _ f id off len sz d hT hx hd
      split at hv
      · rename_i hdn
        have hu := und_slice (C := C) hT rfl
        have hr := h.ev x
        rw [hx] at hr
        obtain ⟨b, l, c, hrv, hb⟩ : ∃ (b : Option Addr) (l c : Nat), a.eval x = .slice b l c ∧ (b.isNone = true → len = 0) := by
          generalize a.eval x = q at hr
          cases hr with
          | arr0 f id off sz ad cap h => exact ⟨ad, _, cap, rfl, fun _ => rfl⟩
          | arr f h1 h2 => exact ⟨_, _, _, rfl, fun h => by cases h⟩
        have hy0 : a.eval (.const (.slice none 0 0)) = .slice none 0 0 := rfl
        have hrun : (execOp a.eval o).run C.P w = .ok (.value (.bool !b.isNone)) w := by
          simp only [execOp, ho, hrv, hy0, Sem.run_bind, eqGuard_plain .neq t x _ (.slice b l c) _ (by simp) (by simp), Result.andThen_ok, Sem.run_pure]
          simp only [binOp, Sem.run_bind, equal_nil hu, Result.andThen_ok, Sem.run_pure]
        exact vPut_sound hd hdn (hv _ hb) h hrun (Quiet.refl h.new) ⟨.bool _, by simp [Tail]⟩ hR
      · exact hv.elim
    · rename_i _ _ _ c s d hT hx hd
      split at hv
      · rename_i c' hy
        split at hv
        · rename_i hc
          have hr := h.ev x
          rw [hx] at hr
          have hr2 := (h.top s).rel
          rw [hy] at hr2
          obtain ⟨b, rx, ry, h1, h2, hrun', hb⟩ := equal_np (C := C) hc.2.1 hc.2.2.1 hc.2.2.2 hr hr2
          have hrun : (execOp a.eval o).run C.P w = .ok (.value (.bool b)) w := by
            simp only [execOp, ho, h1, h2, Sem.run_bind, eqGuard_plain .eql t x _ (.pointer rx) _ (by simp) (by simp), Result.andThen_ok, Sem.run_pure]
            simp only [binOp, Sem.run_bind, hrun', Result.andThen_ok, Sem.run_pure]
          exact vPut_sound hd hc.1 (hv _ hb) h hrun (Quiet.refl h.new) ⟨.bool _, by simp [Tail]⟩ hR
        · exact hv.elim
      · exact hv.elim
    · rename_i _ _ _ c s d hT hx hd
      split at hv
      · rename_i c' hy
        split at hv
        · rename_i hc
          have hr := h.ev x
          rw [hx] at hr
          have hr2 := (h.top s).rel
          rw [hy] at hr2
          obtain ⟨b, rx, ry, h1, h2, hrun', hb⟩ := equal_np (C := C) hc.2.1 hc.2.2.1 hc.2.2.2 hr hr2
          have hrun : (execOp a.eval o).run C.P w = .ok (.value (.bool !b)) w := by
            simp only [execOp, ho, h1, h2, Sem.run_bind, eqGuard_plain .neq t x _ (.pointer rx) _ (by simp) (by simp), Result.andThen_ok, Sem.run_pure]
            simp only [binOp, Sem.run_bind, hrun', Result.andThen_ok, Sem.run_pure]
          exact vPut_sound hd hc.1 (hv _ hb) h hrun (Quiet.refl h.new) ⟨.bool _, by simp [Tail]⟩ hR
        · exact hv.elim
      · exact hv.elim
    · exact hv.elim

theorem vBuild_sound {t : TypeId} {ps : Array (Nat × Operand)} (ho : o.op = .build t ps) (h : St X.n g w e S a.tmps) (hv : vBuild C X o t ps K e S) (hR : Goes X g w a K R) : o.wp C.P a w R Q := by
  unfold vBuild at hv
  split at hv
  · rename_i d hd
    split at hv
    · split at hv
      · rename_i fs sz by_ z hT
        cases hf : pfill (places fs) (nilsOf z) (ps.toList.map fun p => (p.1, ev p.2 e)) with
        | none => rw [hf] at hv; exact hv.elim
        | some out =>
          rw [hf] at hv
          simp only [Option.map_some, vPut] at hv
          split at hv
          · rename_i hdn
            obtain ⟨arr, hu, hm, hfs⟩ := struct_fields (C := C) hT rfl
            obtain ⟨i, zv, hi, hz, hcr⟩ := zero_nils (C := C) (g := g) (w := w) hT
            obtain ⟨us, hus, hout⟩ := fill_rel (places fs) _ _ _ _ _ hcr (by simp) (map_lit_rel h) hf
            have hb : C.P.built t (ps.map fun (i, x) => (i, a.eval x)).toList = some us := by
              unfold Program.built
              rw [hi, hu]
              simp only [hz, hm]
              rw [← hus]
              congr 1
              funext k
              simp [places]
            refine vPut_sound hd hdn hv h (rv := .agg us) ?_ (Quiet.refl h.new) (.ofRel (.agg hout.len hout.one hout.rel) rfl) hR
            simp only [execOp, ho, Sem.run_bind, run_build w t _ _ hb, Result.andThen_ok]
            rfl
          · exact hv.elim
      · exact hv.elim
    · exact vPop_sound h (by rw [hd]; exact hv) hR
  · exact hv.elim

theorem vop_sound (h : St X.n g w e S a.tmps) (hv : vop C X o K e S) (hR : Goes X g w a K R) : o.wp C.P a w R Q := by
  unfold vop at hv
  split at hv
  · rename_i ho; exact vAlloc_sound ho h hv hR
  · rename_i ho; exact vBox_sound ho h hv hR
  · rename_i ho; exact vStore_sound ho h hv hR
  · rename_i ho; exact vLoad_sound ho h hv hR
  · rename_i ho; exact vMove_sound (.inl ho) h hv hR
  · rename_i ho; exact vMove_sound (.inr ho) h hv hR
  · rename_i ho; exact vCall_sound ho h hv hR
  · rename_i ho; exact vBin_sound ho h hv hR
  · rename_i ho; exact vBuild_sound ho h hv hR
  · exact vPop_sound h hv hR

/-- Is an operation done? -/
def vguard (all : List Oper) (o : Oper) (e : Env) : Option Bool :=
  match o.guard with
  | none => some true
  | some (j, want) => (match (all[j]?).bind (·.dst) with
    | some d => (match e d with
      | .bool b => some (b == want)
      | .tup [] => some false
      | _ => none)
    | none => none)

theorem vguard_sound {all : Array Oper} {b : Bool} (h : St X.n g w e S a.tmps) (hg : vguard all.toList o e = some b) : Region.wanted o (yielded all a.tmps) = b := by
  unfold vguard at hg
  unfold Region.wanted
  split at hg
  · rename_i hn; rw [hn]; injection hg
  · rename_i j want hs
    rw [hs]
    dsimp only
    split at hg
    · rename_i d hd
      have hd' : (all[j]?).bind (·.dst) = some d := by rw [← Array.getElem?_toList]; exact hd
      have htop := h.top d
      have hev : ∀ v, a.eval (.tmp d) = v → v ≠ Go.undef → a.tmps[d]? = some v := by
        intro v hv hne
        simp only [Act.eval, Array.getD_eq_getD_getElem?] at hv
        cases hq : a.tmps[d]? with
        | none => rw [hq] at hv; exact absurd hv.symm hne
        | some u => rw [hq] at hv; simpa using hv
      split at hg
      · rename_i q hq
        injection hg with hg
        rw [hq] at htop
        have := rel_bool htop.rel
        have h2 := hev _ this (by simp [Go.undef])
        unfold yielded
        simp only [hd', Option.bind_some, h2]
        rw [← hg]
        cases q <;> cases want <;> rfl
      · rename_i hq
        injection hg with hg
        rw [hq] at htop
        have hz : a.eval (.tmp d) = .tuple #[] := by
          have := htop.rel
          generalize a.eval (.tmp d) = v at this
          cases this with
          | @tup _ us hl _ =>
            congr 1
            apply Array.ext'
            have : us.size = 0 := by simpa using hl.symm
            simpa using this
        unfold yielded
        simp only [hd', Option.bind_some]
        rw [← hg]
        simp only [Act.eval, Array.getD_eq_getD_getElem?] at hz
        cases hq2 : a.tmps[d]? with
        | none => rfl
        | some u => rw [hq2] at hz; simp at hz; subst hz; rfl
      · cases hg
    · cases hg

def vops (C : Ctx) (X : Fx) (all : List Oper) (K : Env → Store → Prop) : List Oper → Env → Store → Prop
  | [], e, S => K e S
  | o :: os, e, S => (match vguard all o e with
    | some true => vop C X o (vops C X all K os) e S
    | some false => if dstOk X o.dst then vops C X all K os (e.putO o.dst (.tup [])) S else False
    | none => False)

theorem St.skip (h : St X.n g w e S a.tmps) {d : Option Nat} (hd : dstOk X d = true) : St X.n g w (e.putO d (.tup [])) S (a.put d Go.undef).tmps := by
  cases d with
  | none => exact h
  | some d => exact h.put (by simpa [dstOk] using hd) ⟨.tup (by simp) (by simp), by simp [Tail]⟩

theorem vops_sound {all : Array Oper} : ∀ (os : List Oper) {g : Gh} {w : World} {e : Env} {S : Store} {a : Act}, St X.n g w e S a.tmps → vops C X all.toList K os e S →
    Goes X g w a K (fun a' w' => Q .normal a' w') → wpList C.P all Q os a w
  | [], g, w, e, S, a, h, hv, hR => hR e S g w a hv h rfl (Fr.refl g w)
  | o :: os, g, w, e, S, a, h, hv, hR => by
    unfold vops at hv
    unfold wpList
    split at hv
    · rename_i hg
      rw [if_pos (vguard_sound h hg)]
      refine .inl (vop_sound h hv ?_)
      intro e' S' g' w' a' hK hst hd fr
      refine vops_sound os hst hK ?_
      intro e2 S2 g2 w2 a2 hK2 hst2 hd2 fr2
      exact hR e2 S2 g2 w2 a2 hK2 hst2 (hd2.trans hd) (fr.trans fr2)
    · rename_i hg
      rw [if_neg (by rw [vguard_sound h hg]; simp)]
      split at hv
      · rename_i hd
        refine vops_sound os (h.skip hd) hv ?_
        intro e2 S2 g2 w2 a2 hK2 hst2 hd2 fr2
        exact hR e2 S2 g2 w2 a2 hK2 hst2 (hd2.trans (put_defers _ _ _)) fr2
      · exact hv.elim
    · exact hv.elim

end
end Go.VL
