/- VL, part 18: code. -/
import Derived.Test.YtmedhhjbknnfkaaVL17
import Derived.LoopN
set_option linter.unusedVariables false
set_option linter.unusedSimpArgs false
namespace Go.VL
open Go

section
variable {C : Ctx} {X : Fx} {o : Oper} {g : Gh} {w : World} {a : Act} {e : Env} {S : Store} {K : Env → Store → Prop} {R : Act → World → Prop} {Q : Exit → Act → World → Prop}

/-! ### code -/
inductive PExit where
  | normal
  | exit (id : Nat)
  | ret

abbrev Post := PExit → Env → Store → Prop

def thenK (W : Env → Store → Prop) (Q : Post) : Post
  | .normal, e, S => W e S
  | x, e, S => Q x e S
def blockK (id : Nat) (Q : Post) : Post
  | .exit j, e, S => if j = id then Q .normal e S else Q (.exit j) e S
  | x, e, S => Q x e S
def loopK (I : Env → Store → Prop) (m : Env → Store → Nat) (k : Nat) (Q : Post) : Post
  | .normal, e, S => ∃ S', (∀ id c, S' id = some c → S id = some c) ∧ I e S' ∧ m e S' < k
  | x, e, S => Q x e S

def vwp (C : Ctx) (X : Fx) : Code → Post → Env → Store → Prop
  | .skip, Q, e, S => Q .normal e S
  | .region _ ops false, Q, e, S => vops C X ops.toList (Q .normal) ops.toList e S
  | .region _ ops true, Q, e, S => vdraw C X ops (Q .normal) e S
  | .seq x y, Q, e, S => vwp C X x (thenK (vwp C X y Q) Q) e S
  | .cond c x y, Q, e, S => (match ev c e with | .bool true => vwp C X x Q e S | .bool false => vwp C X y Q e S | _ => False)
  | .block id c, Q, e, S => vwp C X c (blockK id Q) e S
  | .loop c, Q, e, S => ∃ (I : Env → Store → Prop) (m : Env → Store → Nat), I e S ∧ ∀ e S, I e S → vwp C X c (loopK I m (m e S) Q) e S
  | .exit id, Q, e, S => Q (.exit id) e S
  | .ret, Q, e, S => Q .ret e S
  | _, _, _, _ => False

/-- What a plain post means. -/
def Lift (X : Fx) (g : Gh) (w : World) (a : Act) (Q : Post) : Exit → Act → World → Prop := fun x a' w' =>
  ∃ px e' S' g', (match x, px with | .normal, .normal => True | .exit i, .exit j => i = j | .ret, .ret => True | _, _ => False) ∧ Q px e' S' ∧ St X.n g' w' e' S' a'.tmps ∧ a'.defers = a.defers ∧ Fr g g' w w'

theorem vwp_sound : ∀ (c : Code) {Q : Post} {g : Gh} {w : World} {e : Env} {S : Store} {a : Act}, St X.n g w e S a.tmps → vwp C X c Q e S → c.wp C.P (Lift X g w a Q) a w
  | .skip, Q, g, w, e, S, a, h, hv => wp_skip ⟨.normal, e, S, g, trivial, hv, h, rfl, Fr.refl g w⟩
  | .region i ops false, Q, g, w, e, S, a, h, hv => by
    unfold vwp at hv
    refine wp_region_list (vops_sound ops.toList h hv ?_)
    intro e' S' g' w' a' hK hst hd fr
    exact ⟨.normal, e', S', g', trivial, hK, hst, hd, fr⟩
  | .region i ops true, Q, g, w, e, S, a, h, hv => by
    unfold vwp at hv
    have q := Quiet.drew (w := w) h.new
    refine wp_region_any C.hm (hv g w.drew a _ (h.quiet q) ?_)
    intro e' S' g' w' a' hK hst hd fr
    exact ⟨.normal, e', S', g', trivial, hK, hst, hd, q.toFr.trans fr⟩
  | .seq x y, Q, g, w, e, S, a, h, hv => by
    unfold vwp at hv
    refine wp_seq (Code.wp_mono ?_ (vwp_sound x h hv))
    rintro ex a1 w1 ⟨px, e1, S1, g1, hx, hq, hst, hd, fr⟩
    cases ex <;> cases px <;> try exact hx.elim
    · simp only [thenK] at hq
      refine Code.wp_mono ?_ (vwp_sound y hst hq)
      rintro ex a2 w2 ⟨px, e2, S2, g2, hx2, hq2, hst2, hd2, fr2⟩
      exact ⟨px, e2, S2, g2, hx2, hq2, hst2, hd2.trans hd, fr.trans fr2⟩
    · exact ⟨_, e1, S1, g1, hx, hq, hst, hd, fr⟩
    · exact ⟨_, e1, S1, g1, hx, hq, hst, hd, fr⟩
  | .cond c x y, Q, g, w, e, S, a, h, hv => by
    unfold vwp at hv
    split at hv
    · rename_i ht
      have hr := rel_bool (ht ▸ h.ev c)
      exact wp_cond_true hr (vwp_sound x h hv)
    · rename_i ht
      have hr := rel_bool (ht ▸ h.ev c)
      exact wp_cond_false hr (vwp_sound y h hv)
    · exact hv.elim
  | .block id c, Q, g, w, e, S, a, h, hv => by
    unfold vwp at hv
    refine wp_block (Code.wp_mono ?_ (vwp_sound c h hv))
    rintro ex a1 w1 ⟨px, e1, S1, g1, hx, hq, hst, hd, fr⟩
    cases ex <;> cases px <;> try exact hx.elim
    · exact ⟨_, e1, S1, g1, trivial, hq, hst, hd, fr⟩
    · rename_i i j
      simp only at hx
      subst hx
      simp only [blockK] at hq
      simp only [Exit.inBlock]
      split
      · rename_i hi; rw [if_pos hi] at hq; exact ⟨.normal, e1, S1, g1, trivial, hq, hst, hd, fr⟩
      · rename_i hi; rw [if_neg hi] at hq; exact ⟨.exit i, e1, S1, g1, rfl, hq, hst, hd, fr⟩
    · exact ⟨.ret, e1, S1, g1, trivial, hq, hst, hd, fr⟩
  | .loop c, Q, g, w, e, S, a, h, hv => by
    unfold vwp at hv
    obtain ⟨I, m, hI, round⟩ := hv
    have key : ∀ (n : Nat) (e1 : Env) (S1 : Store) (g1 : Gh) (w1 : World) (a1 : Act), m e1 S1 < n → I e1 S1 → St X.n g1 w1 e1 S1 a1.tmps → a1.defers = a.defers → Fr g g1 w w1 → Code.rounds C.P c (Lift X g w a Q) n a1 w1 := by
      intro n
      induction n with
      | zero => intro e1 S1 g1 w1 a1 hn; omega
      | succ n ih =>
        intro e1 S1 g1 w1 a1 hn hI1 hst1 hd1 fr1
        refine Code.wp_mono ?_ (vwp_sound c hst1 (round e1 S1 hI1))
        rintro ex a2 w2 ⟨px, e2, S2, g2, hx, hq, hst2, hd2, fr2⟩
        cases ex <;> cases px <;> try exact hx.elim
        · obtain ⟨S3, hs, hI3, hlt⟩ := hq
          exact ih e2 S3 g2 w2 a2 (by omega) hI3 (hst2.drop hs) (hd2.trans hd1) (fr1.trans fr2)
        · exact ⟨_, e2, S2, g2, hx, hq, hst2, hd2.trans hd1, fr1.trans fr2⟩
        · exact ⟨_, e2, S2, g2, hx, hq, hst2, hd2.trans hd1, fr1.trans fr2⟩
    exact wp_loop_rounds _ (key _ e S g w a (Nat.lt_succ_self _) hI h rfl (Fr.refl g w))
  | .exit id, Q, g, w, e, S, a, h, hv => wp_exit ⟨.exit id, e, S, g, rfl, hv, h, rfl, Fr.refl g w⟩
  | .ret, Q, g, w, e, S, a, h, hv => wp_ret ⟨.ret, e, S, g, trivial, hv, h, rfl, Fr.refl g w⟩
  | .rangeFunc .., _, _, _, _, _, _, _, hv => by unfold vwp at hv; exact hv.elim
  | .scope _, _, _, _, _, _, _, _, hv => by unfold vwp at hv; exact hv.elim
  | .label _, _, _, _, _, _, _, _, hv => by unfold vwp at hv; exact hv.elim
  | .goto _, _, _, _, _, _, _, _, hv => by unfold vwp at hv; exact hv.elim
  | .refuse _, _, _, _, _, _, _, _, hv => by unfold vwp at hv; exact hv.elim
end
end Go.VL
