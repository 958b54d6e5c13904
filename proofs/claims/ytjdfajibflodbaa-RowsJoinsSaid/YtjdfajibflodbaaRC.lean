/- Rows: what a log is asked. -/
import Derived.Test.YtjdfajibflodbaaRB
set_option linter.unusedVariables false
set_option linter.unusedSimpArgs false
namespace Go.Proofs.Ytjdfajibflodbaa.V
open Go Go.VL

def chk (l : Lg) : Bool := within l.i 0 && within l.t 0 && rise l.i l.t l.rows
def chkN (b : Bool) : Int := if b then 0 else 120
theorem chkN_t : chkN true = 0 := rfl
theorem chkN_f : chkN false = 120 := rfl

def Fit (l : Lg) : Prop := l.rows.length ≤ 140737488355328

theorem check_spec (l : Lg) (hl : Fit l) (S : Store) : PRet Try.prog 21 [encG l] S (.int .i64 (chkN (chk l))) := by
  intro K hK
  refine pcalls_of (C := C) (fun _ => false) (fun _ => false) Try.func21 rfl rfl (by simp [Try.f21]) ?_
  simp -implicitDefEqProofs only [go_sem, ↓reduceIte, Nat.reduceEqDiff, Nat.reduceLT, Nat.reduceLeDiff, Nat.reduceAdd, Nat.reduceMul, Nat.reduceSub, reduceCtorEq, Nat.reduceMod, Nat.reduceBEq, Int.reduceBEq, Int.reduceBNe, Int.reduceToNat, Try.f21, encG]
  refine within_spec _ _ _ _ ?_
  cases a1 : within l.i 0
  · simp -implicitDefEqProofs only [go_sem, ↓reduceIte, Nat.reduceEqDiff, Nat.reduceLT, Nat.reduceLeDiff, Nat.reduceAdd, Nat.reduceMul, Nat.reduceSub, reduceCtorEq, Nat.reduceMod, Nat.reduceBEq, Int.reduceBEq, Int.reduceBNe, Int.reduceToNat, a1]
    simp only [chk, a1, Bool.false_and, chkN_f] at hK
    exact ⟨S, fun _ _ h => h, hK⟩
  · simp -implicitDefEqProofs only [go_sem, ↓reduceIte, Nat.reduceEqDiff, Nat.reduceLT, Nat.reduceLeDiff, Nat.reduceAdd, Nat.reduceMul, Nat.reduceSub, reduceCtorEq, Nat.reduceMod, Nat.reduceBEq, Int.reduceBEq, Int.reduceBNe, Int.reduceToNat, a1]
    refine within_spec _ _ _ _ ?_
    cases a2 : within l.t 0
    · simp -implicitDefEqProofs only [go_sem, ↓reduceIte, Nat.reduceEqDiff, Nat.reduceLT, Nat.reduceLeDiff, Nat.reduceAdd, Nat.reduceMul, Nat.reduceSub, reduceCtorEq, Nat.reduceMod, Nat.reduceBEq, Int.reduceBEq, Int.reduceBNe, Int.reduceToNat, a2]
      simp only [chk, a2, Bool.false_and, Bool.and_false, chkN_f] at hK
      exact ⟨S, fun _ _ h => h, hK⟩
    · simp -implicitDefEqProofs only [go_sem, ↓reduceIte, Nat.reduceEqDiff, Nat.reduceLT, Nat.reduceLeDiff, Nat.reduceAdd, Nat.reduceMul, Nat.reduceSub, reduceCtorEq, Nat.reduceMod, Nat.reduceBEq, Int.reduceBEq, Int.reduceBNe, Int.reduceToNat, a2]
      refine rise_spec _ _ _ hl _ _ ?_
      cases a3 : rise l.i l.t l.rows
      · simp -implicitDefEqProofs only [go_sem, ↓reduceIte, Nat.reduceEqDiff, Nat.reduceLT, Nat.reduceLeDiff, Nat.reduceAdd, Nat.reduceMul, Nat.reduceSub, reduceCtorEq, Nat.reduceMod, Nat.reduceBEq, Int.reduceBEq, Int.reduceBNe, Int.reduceToNat, a3]
        simp only [chk, a3, Bool.false_and, Bool.and_false, chkN_f] at hK
        exact ⟨S, fun _ _ h => h, hK⟩
      · simp -implicitDefEqProofs only [go_sem, ↓reduceIte, Nat.reduceEqDiff, Nat.reduceLT, Nat.reduceLeDiff, Nat.reduceAdd, Nat.reduceMul, Nat.reduceSub, reduceCtorEq, Nat.reduceMod, Nat.reduceBEq, Int.reduceBEq, Int.reduceBNe, Int.reduceToNat, a3]
        simp only [chk, a1, a2, a3, Bool.true_and, chkN_t] at hK
        exact ⟨S, fun _ _ h => h, hK⟩

theorem rise_get : ∀ (l : List Ent) (i t : Int), rise i t l = true → ∀ (k : Nat) (e : Ent), l[k]? = some e → e.i = i + k + 1 ∧ within e.i 1 = true ∧ within e.t (max t 1) = true ∧ 0 ≤ i ∧ i ≤ 1099511627776 ∧ e.d.length ≤ 8192
  | [], _, _, _, k, e, h => by simp at h
  | e0 :: l, i, t, hr, k, e, h => by
    simp only [rise, Bool.and_eq_true, beq_iff_eq, decide_eq_true_eq] at hr
    obtain ⟨⟨⟨⟨⟨b1, b2⟩, b3⟩, b4⟩, b5⟩, b6⟩ := hr
    have c1 := within_iff.1 b1
    cases k with
    | zero =>
      simp at h
      subst h
      exact ⟨by omega, b3, b4, by omega, by omega, b5⟩
    | succ k =>
      obtain ⟨d1, d2, d3, d4, d5, d6⟩ := rise_get l _ _ b6 k e (by simpa using h)
      have c4 := within_iff.1 b4
      have c3 := within_iff.1 d3
      refine ⟨by rw [d1, b2]; omega, d2, within_iff.2 ⟨by omega, c3.2⟩, c1.1, c1.2, d6⟩

/-- The last entry's place, or the base's. -/
def lastF (i t : Int) : List Ent → Int × Int
  | [] => (i, t)
  | e :: l => lastF e.i e.t l
theorem lastF_eq : ∀ (l : List Ent) (i t : Int), lastF i t l = match l.getLast? with | some e => (e.i, e.t) | none => (i, t)
  | [], _, _ => rfl
  | [e], _, _ => rfl
  | e :: e' :: l, i, t => by
    rw [lastF, lastF_eq, List.getLast?_cons_cons]
    cases h : (e' :: l).getLast? with
    | none => simp at h
    | some x => rfl

theorem getD_encL {l : List Ent} {k : Nat} {e : Ent} (h : l[k]? = some e) : (encL l).getD k [] = encE e := by
  simp [encL, List.getD_eq_getElem?_getD, h]

theorem last_spec (l : Lg) (hl : Fit l) (S : Store) : PRet Try.prog 33 [encG l] S (.tup [.int .i64 (lastF l.i l.t l.rows).1, .int .i64 (lastF l.i l.t l.rows).2]) := by
  intro K hK
  refine pcalls_of (C := C) (fun _ => false) (fun _ => false) Try.func33 rfl rfl (by simp [Try.f33]) ?_
  simp -implicitDefEqProofs only [go_sem, ↓reduceIte, Nat.reduceEqDiff, Nat.reduceLT, Nat.reduceLeDiff, Nat.reduceAdd, Nat.reduceMul, Nat.reduceSub, reduceCtorEq, Nat.reduceMod, Nat.reduceBEq, Int.reduceBEq, Int.reduceBNe, Int.reduceToNat, Try.f33, encG]
  rw [lastF_eq] at hK
  unfold Fit at hl
  by_cases h : 0 < l.rows.length
  · have hc : (0 : Int) < l.rows.length := by omega
    simp -implicitDefEqProofs only [go_sem, ↓reduceIte, Nat.reduceEqDiff, Nat.reduceLT, Nat.reduceLeDiff, Nat.reduceAdd, Nat.reduceMul, Nat.reduceSub, reduceCtorEq, Nat.reduceMod, Nat.reduceBEq, Int.reduceBEq, Int.reduceBNe, Int.reduceToNat, hc]
    have hw : IntKind.i64.wrap ((l.rows.length : Int) - 1) = ((l.rows.length - 1 : Nat) : Int) := by
      rw [wrap64 (by omega) (by omega)]; omega
    obtain ⟨e, he⟩ : ∃ e, l.rows[l.rows.length - 1]? = some e := ⟨_, List.getElem?_eq_getElem (by omega)⟩
    have hgl : l.rows.getLast? = some e := by rw [List.getLast?_eq_getElem?, he]
    rw [hgl] at hK
    have hin : (0 : Int) ≤ ((l.rows.length - 1 : Nat) : Int) ∧ ((l.rows.length - 1 : Nat) : Int) < l.rows.length := by omega
    refine vwp_draw (by decide +kernel) ?_
    simp -implicitDefEqProofs only [go_sem, ↓reduceIte, Nat.reduceEqDiff, Nat.reduceLT, Nat.reduceLeDiff, Nat.reduceAdd, Nat.reduceMul, Nat.reduceSub, reduceCtorEq, Nat.reduceMod, Nat.reduceBEq, Int.reduceBEq, Int.reduceBNe, Int.reduceToNat, hw, hin, getD_encL he, encE]
    exact ⟨S, fun _ _ h => h, hK⟩
  · have hc : ¬ (0 : Int) < l.rows.length := by omega
    simp -implicitDefEqProofs only [go_sem, ↓reduceIte, Nat.reduceEqDiff, Nat.reduceLT, Nat.reduceLeDiff, Nat.reduceAdd, Nat.reduceMul, Nat.reduceSub, reduceCtorEq, Nat.reduceMod, Nat.reduceBEq, Int.reduceBEq, Int.reduceBNe, Int.reduceToNat, hc]
    have hgl : l.rows = [] := List.eq_nil_of_length_eq_zero (by omega)
    rw [hgl] at hK
    refine vwp_draw (by decide +kernel) ?_
    simp -implicitDefEqProofs only [go_sem, ↓reduceIte, Nat.reduceEqDiff, Nat.reduceLT, Nat.reduceLeDiff, Nat.reduceAdd, Nat.reduceMul, Nat.reduceSub, reduceCtorEq, Nat.reduceMod, Nat.reduceBEq, Int.reduceBEq, Int.reduceBNe, Int.reduceToNat]
    exact ⟨S, fun _ _ h => h, hK⟩
end Go.Proofs.Ytjdfajibflodbaa.V
