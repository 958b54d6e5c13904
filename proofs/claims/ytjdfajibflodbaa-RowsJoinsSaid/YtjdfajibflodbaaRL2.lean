/- Rows: of two logs at least one's end is fresh for the other one; what is joined behind all is fresh. -/
import Derived.Test.YtjdfajibflodbaaRK
set_option linter.unusedVariables false
set_option linter.unusedSimpArgs false
namespace Go.Proofs.Ytjdfajibflodbaa.V
open Go Go.VL

theorem rise_app : ∀ (A B : List Ent) (i t : Int), rise i t (A ++ B) = (rise i t A && rise (lastF i t A).1 (lastF i t A).2 B)
  | [], B, i, t => by simp [rise, lastF]
  | e :: A, B, i, t => by
    simp only [List.cons_append, rise, lastF, rise_app A B, Bool.and_assoc]
theorem lastF_app : ∀ (A B : List Ent) (i t : Int), lastF i t (A ++ B) = lastF (lastF i t A).1 (lastF i t A).2 B
  | [], B, i, t => rfl
  | e :: A, B, i, t => by simp only [List.cons_append, lastF, lastF_app A B]
theorem rise_mono : ∀ (l : List Ent) (i t : Int), rise i t l = true → i ≤ (lastF i t l).1 ∧ t ≤ (lastF i t l).2
  | [], i, t, _ => ⟨Int.le_refl _, Int.le_refl _⟩
  | e :: l, i, t, h => by
    simp only [rise, Bool.and_eq_true, beq_iff_eq] at h
    obtain ⟨⟨⟨⟨⟨b1, b2⟩, b3⟩, b4⟩, b5⟩, b6⟩ := h
    have := rise_mono l e.i e.t b6
    have c4 := within_iff.1 b4
    rw [lastF]
    omega
theorem lastF_take : ∀ (l : List Ent) (i t : Int) (k : Nat), rise i t l = true → k < l.length → ∀ e, l[k]? = some e → lastF i t (l.take (k + 1)) = (e.i, e.t)
  | [], _, _, k, _, hk, _, _ => by simp at hk
  | a :: l, i, t, 0, _, _, e, he => by
    simp at he; subst he
    simp [lastF]
  | a :: l, i, t, k + 1, h, hk, e, he => by
    simp only [rise, Bool.and_eq_true] at h
    rw [List.take_succ_cons, lastF]
    exact lastF_take l a.i a.t k h.2 (by simpa using hk) e (by simpa using he)
theorem at_last {l : Lg} (h : chk l = true) : atF l (lastF l.i l.t l.rows).1 = ((lastF l.i l.t l.rows).2, true) := by
  obtain ⟨c1, c2, c3, c4, hr⟩ := chk_iff h
  have hi := lastF_i _ _ _ hr
  unfold atF
  by_cases h0 : l.rows.length = 0
  · have : l.rows = [] := List.eq_nil_of_length_eq_zero h0
    rw [this]
    simp [lastF]
  · rw [hi, if_neg (by omega), if_neg (by omega)]
    have hk : (l.i + (l.rows.length : Int) - l.i - 1).toNat = l.rows.length - 1 := by omega
    rw [hk]
    obtain ⟨e, he⟩ : ∃ e, l.rows[l.rows.length - 1]? = some e := ⟨_, List.getElem?_eq_getElem (by omega)⟩
    rw [he]
    have := lastF_take l.rows l.i l.t (l.rows.length - 1) hr (by omega) e he
    rw [show l.rows.length - 1 + 1 = l.rows.length by omega, List.take_length] at this
    rw [this]
theorem at_past {l : Lg} (h : chk l = true) {x : Int} (hx : (lastF l.i l.t l.rows).1 < x) : atF l x = (0, false) := by
  obtain ⟨c1, c2, c3, c4, hr⟩ := chk_iff h
  rw [lastF_i _ _ _ hr] at hx
  unfold atF
  rw [if_neg (by omega), if_neg (by omega), List.getElem?_eq_none (by omega)]

/-- What is joined behind the end. -/
theorem join_end {l : Lg} (h : chk l = true) {more : List Ent} (hok : (joinF l (lastF l.i l.t l.rows).1 (lastF l.i l.t l.rows).2 more).ok = true) :
    (joinF l (lastF l.i l.t l.rows).1 (lastF l.i l.t l.rows).2 more).out = ⟨l.i, l.t, l.rows ++ more⟩ ∧ rise (lastF l.i l.t l.rows).1 (lastF l.i l.t l.rows).2 more = true := by
  obtain ⟨c1, c2, c3, c4, hr⟩ := chk_iff h
  unfold joinF at hok ⊢
  rw [h] at hok ⊢
  simp only [if_true] at hok ⊢
  cases hm : meets l (lastF l.i l.t l.rows).1 (lastF l.i l.t l.rows).2 more
  · rw [hm] at hok; simp at hok
  · simp only [if_true]
    have hm2 := hm
    simp only [meets, Bool.and_eq_true] at hm2
    obtain ⟨⟨⟨_, hrm⟩, _⟩, _⟩ := hm2
    refine ⟨?_, hrm⟩
    cases more with
    | nil => simp [joinGo]
    | cons e rest =>
      have hrm2 := hrm
      simp only [rise, Bool.and_eq_true, beq_iff_eq] at hrm2
      obtain ⟨⟨⟨⟨⟨b1, b2⟩, b3⟩, b4⟩, b5⟩, b6⟩ := hrm2
      have hb := lastF_le h
      have hp : atF l e.i = (0, false) := at_past h (by omega)
      have hq : atF l (e.i - 1) = ((lastF l.i l.t l.rows).2, true) := by
        rw [show e.i - 1 = (lastF l.i l.t l.rows).1 by omega, at_last h]
      have w4 := within_iff.1 b4
      rw [joinGo, if_neg (by rw [hp]; simp; omega), if_neg (by rw [hq]; simp only; omega)]
      have hk : (e.i - l.i - 1).toNat = l.rows.length := by
        rw [b2, lastF_i _ _ _ hr]; omega
      simp only [hk, List.take_length]

theorem join_end_chk {l : Lg} (h : chk l = true) {more : List Ent} (hr2 : rise (lastF l.i l.t l.rows).1 (lastF l.i l.t l.rows).2 more = true) : chk ⟨l.i, l.t, l.rows ++ more⟩ = true := by
  simp only [chk, Bool.and_eq_true] at h ⊢
  exact ⟨h.1, by rw [rise_app, h.2, hr2]; rfl⟩

theorem fresh_spec (a b : Lg) (more : List Ent) (S : Store) : PRet Try.prog 6 [encG a, encG b, .sl .no 3 (encL more)] S (.bool true) := by
  intro K hK
  refine pcalls_of (C := C) (fun _ => false) (fun _ => false) Try.func6 rfl rfl (by simp [Try.f6]) ?_
  simp -implicitDefEqProofs only [go_sem, ↓reduceIte, Nat.reduceEqDiff, Nat.reduceLT, Nat.reduceLeDiff, Nat.reduceAdd, Nat.reduceMul, Nat.reduceSub, reduceCtorEq, Nat.reduceMod, Nat.reduceBEq, Int.reduceBEq, Int.reduceBNe, Int.reduceToNat, Try.f6, encG]
  refine light_spec [a.rows, b.rows, more] (by simp) _ _ ?_
  cases h1 : lightF 0 [a.rows, b.rows, more]
  · simp -implicitDefEqProofs only [go_sem, ↓reduceIte, Nat.reduceEqDiff, Nat.reduceLT, Nat.reduceLeDiff, Nat.reduceAdd, Nat.reduceMul, Nat.reduceSub, reduceCtorEq, Nat.reduceMod, Nat.reduceBEq, Int.reduceBEq, Int.reduceBNe, Int.reduceToNat, h1]
    refine awake_spec _ _ ?_
    simp -implicitDefEqProofs only [go_sem, ↓reduceIte, Nat.reduceEqDiff, Nat.reduceLT, Nat.reduceLeDiff, Nat.reduceAdd, Nat.reduceMul, Nat.reduceSub, reduceCtorEq, Nat.reduceMod, Nat.reduceBEq, Int.reduceBEq, Int.reduceBNe, Int.reduceToNat]
    exact ⟨S, fun _ _ h => h, hK⟩
  · have hla : a.rows.length ≤ 200 := light_len _ _ h1 _ (by simp)
    have hlb : b.rows.length ≤ 200 := light_len _ _ h1 _ (by simp)
    have hlm : more.length ≤ 200 := light_len _ _ h1 _ (by simp)
    have hfa : Fit a := by unfold Fit; omega
    have hfb : Fit b := by unfold Fit; omega
    simp -implicitDefEqProofs only [go_sem, ↓reduceIte, Nat.reduceEqDiff, Nat.reduceLT, Nat.reduceLeDiff, Nat.reduceAdd, Nat.reduceMul, Nat.reduceSub, reduceCtorEq, Nat.reduceMod, Nat.reduceBEq, Int.reduceBEq, Int.reduceBNe, Int.reduceToNat, h1]
    refine check_spec a hfa _ _ ?_
    cases ha : chk a
    · simp -implicitDefEqProofs only [go_sem, ↓reduceIte, Nat.reduceEqDiff, Nat.reduceLT, Nat.reduceLeDiff, Nat.reduceAdd, Nat.reduceMul, Nat.reduceSub, reduceCtorEq, Nat.reduceMod, Nat.reduceBEq, Int.reduceBEq, Int.reduceBNe, Int.reduceToNat, chkN_f]
      refine awake_spec _ _ ?_
      simp -implicitDefEqProofs only [go_sem, ↓reduceIte, Nat.reduceEqDiff, Nat.reduceLT, Nat.reduceLeDiff, Nat.reduceAdd, Nat.reduceMul, Nat.reduceSub, reduceCtorEq, Nat.reduceMod, Nat.reduceBEq, Int.reduceBEq, Int.reduceBNe, Int.reduceToNat]
      exact ⟨S, fun _ _ h => h, hK⟩
    · simp -implicitDefEqProofs only [go_sem, ↓reduceIte, Nat.reduceEqDiff, Nat.reduceLT, Nat.reduceLeDiff, Nat.reduceAdd, Nat.reduceMul, Nat.reduceSub, reduceCtorEq, Nat.reduceMod, Nat.reduceBEq, Int.reduceBEq, Int.reduceBNe, Int.reduceToNat, chkN_t]
      refine check_spec b hfb _ _ ?_
      cases hb : chk b
      · simp -implicitDefEqProofs only [go_sem, ↓reduceIte, Nat.reduceEqDiff, Nat.reduceLT, Nat.reduceLeDiff, Nat.reduceAdd, Nat.reduceMul, Nat.reduceSub, reduceCtorEq, Nat.reduceMod, Nat.reduceBEq, Int.reduceBEq, Int.reduceBNe, Int.reduceToNat, chkN_f]
        refine awake_spec _ _ ?_
        simp -implicitDefEqProofs only [go_sem, ↓reduceIte, Nat.reduceEqDiff, Nat.reduceLT, Nat.reduceLeDiff, Nat.reduceAdd, Nat.reduceMul, Nat.reduceSub, reduceCtorEq, Nat.reduceMod, Nat.reduceBEq, Int.reduceBEq, Int.reduceBNe, Int.reduceToNat]
        exact ⟨S, fun _ _ h => h, hK⟩
      · simp -implicitDefEqProofs only [go_sem, ↓reduceIte, Nat.reduceEqDiff, Nat.reduceLT, Nat.reduceLeDiff, Nat.reduceAdd, Nat.reduceMul, Nat.reduceSub, reduceCtorEq, Nat.reduceMod, Nat.reduceBEq, Int.reduceBEq, Int.reduceBNe, Int.reduceToNat, chkN_t]
        refine Last_spec a hfa _ _ ?_
        rw [ha]
        simp -implicitDefEqProofs only [go_sem, ↓reduceIte, Nat.reduceEqDiff, Nat.reduceLT, Nat.reduceLeDiff, Nat.reduceAdd, Nat.reduceMul, Nat.reduceSub, reduceCtorEq, Nat.reduceMod, Nat.reduceBEq, Int.reduceBEq, Int.reduceBNe, Int.reduceToNat]
        refine Last_spec b hfb _ _ ?_
        rw [hb]
        simp -implicitDefEqProofs only [go_sem, ↓reduceIte, Nat.reduceEqDiff, Nat.reduceLT, Nat.reduceLeDiff, Nat.reduceAdd, Nat.reduceMul, Nat.reduceSub, reduceCtorEq, Nat.reduceMod, Nat.reduceBEq, Int.reduceBEq, Int.reduceBNe, Int.reduceToNat]
        have hba := lastF_le ha
        obtain ⟨c1, c2, _⟩ := chk_iff ha
        refine Fresh_spec a _ _ hfa _ _ ?_
        have g1 : freshF a (lastF a.i a.t a.rows).1 (lastF a.i a.t a.rows).2 = true := by simp [freshF, ha]
        have g2 : freshF a (lastF b.i b.t b.rows).1 (lastF b.i b.t b.rows).2 = false → freshF b (lastF a.i a.t a.rows).1 (lastF a.i a.t a.rows).2 = true := by
          simp only [freshF, ha, hb, Bool.true_and, Bool.or_eq_false_iff, decide_eq_false_iff_not, Bool.and_eq_false_iff, beq_eq_false_iff_ne, Bool.or_eq_true, decide_eq_true_eq, Bool.and_eq_true, beq_iff_eq]
          omega
        cases g3 : freshF a (lastF b.i b.t b.rows).1 (lastF b.i b.t b.rows).2
        · simp -implicitDefEqProofs only [go_sem, ↓reduceIte, Nat.reduceEqDiff, Nat.reduceLT, Nat.reduceLeDiff, Nat.reduceAdd, Nat.reduceMul, Nat.reduceSub, reduceCtorEq, Nat.reduceMod, Nat.reduceBEq, Int.reduceBEq, Int.reduceBNe, Int.reduceToNat]
          refine Fresh_spec b _ _ hfb _ _ ?_
          rw [g2 g3]
          simp -implicitDefEqProofs only [go_sem, ↓reduceIte, Nat.reduceEqDiff, Nat.reduceLT, Nat.reduceLeDiff, Nat.reduceAdd, Nat.reduceMul, Nat.reduceSub, reduceCtorEq, Nat.reduceMod, Nat.reduceBEq, Int.reduceBEq, Int.reduceBNe, Int.reduceToNat]
          refine Fresh_spec a _ _ hfa _ _ ?_
          rw [g1]
          simp -implicitDefEqProofs only [go_sem, ↓reduceIte, Nat.reduceEqDiff, Nat.reduceLT, Nat.reduceLeDiff, Nat.reduceAdd, Nat.reduceMul, Nat.reduceSub, reduceCtorEq, Nat.reduceMod, Nat.reduceBEq, Int.reduceBEq, Int.reduceBNe, Int.reduceToNat]
          refine Join_spec a _ _ more (by unfold InR; omega) (by omega) (by omega) _ _ ?_
          generalize hj : joinF a (lastF a.i a.t a.rows).1 (lastF a.i a.t a.rows).2 more = j
          have hend := join_end (more := more) ha
          rw [hj] at hend
          cases hok : j.ok
          · simp -implicitDefEqProofs only [go_sem, ↓reduceIte, Nat.reduceEqDiff, Nat.reduceLT, Nat.reduceLeDiff, Nat.reduceAdd, Nat.reduceMul, Nat.reduceSub, reduceCtorEq, Nat.reduceMod, Nat.reduceBEq, Int.reduceBEq, Int.reduceBNe, Int.reduceToNat, encJ, encG, hok]
            refine awake_spec _ _ ?_
            simp -implicitDefEqProofs only [go_sem, ↓reduceIte, Nat.reduceEqDiff, Nat.reduceLT, Nat.reduceLeDiff, Nat.reduceAdd, Nat.reduceMul, Nat.reduceSub, reduceCtorEq, Nat.reduceMod, Nat.reduceBEq, Int.reduceBEq, Int.reduceBNe, Int.reduceToNat]
            exact ⟨S, fun _ _ h => h, hK⟩
          · obtain ⟨he1, he2⟩ := hend hok
            have hchk : chk j.out = true := by rw [he1]; exact join_end_chk ha he2
            have hfo : Fit j.out := by
              rw [he1]
              unfold Fit
              simp only [List.length_append]
              omega
            have hlast : lastF j.out.i j.out.t j.out.rows = lastF (lastF a.i a.t a.rows).1 (lastF a.i a.t a.rows).2 more := by
              rw [he1]; exact lastF_app _ _ _ _
            have hmo := rise_mono _ _ _ he2
            simp -implicitDefEqProofs only [go_sem, ↓reduceIte, Nat.reduceEqDiff, Nat.reduceLT, Nat.reduceLeDiff, Nat.reduceAdd, Nat.reduceMul, Nat.reduceSub, reduceCtorEq, Nat.reduceMod, Nat.reduceBEq, Int.reduceBEq, Int.reduceBNe, Int.reduceToNat, encJ, encG, hok]
            refine Last_spec j.out hfo _ _ ?_
            rw [hchk]
            simp -implicitDefEqProofs only [go_sem, ↓reduceIte, Nat.reduceEqDiff, Nat.reduceLT, Nat.reduceLeDiff, Nat.reduceAdd, Nat.reduceMul, Nat.reduceSub, reduceCtorEq, Nat.reduceMod, Nat.reduceBEq, Int.reduceBEq, Int.reduceBNe, Int.reduceToNat]
            refine Fresh_spec a _ _ hfa _ _ ?_
            have g4 : freshF a (lastF j.out.i j.out.t j.out.rows).1 (lastF j.out.i j.out.t j.out.rows).2 = true := by
              rw [hlast]
              simp only [freshF, ha, Bool.true_and, Bool.or_eq_true, decide_eq_true_eq, Bool.and_eq_true, beq_iff_eq]
              omega
            rw [g4]
            simp -implicitDefEqProofs only [go_sem, ↓reduceIte, Nat.reduceEqDiff, Nat.reduceLT, Nat.reduceLeDiff, Nat.reduceAdd, Nat.reduceMul, Nat.reduceSub, reduceCtorEq, Nat.reduceMod, Nat.reduceBEq, Int.reduceBEq, Int.reduceBNe, Int.reduceToNat]
            refine awake_spec _ _ ?_
            simp -implicitDefEqProofs only [go_sem, ↓reduceIte, Nat.reduceEqDiff, Nat.reduceLT, Nat.reduceLeDiff, Nat.reduceAdd, Nat.reduceMul, Nat.reduceSub, reduceCtorEq, Nat.reduceMod, Nat.reduceBEq, Int.reduceBEq, Int.reduceBNe, Int.reduceToNat]
            exact ⟨S, fun _ _ h => h, hK⟩
        · simp -implicitDefEqProofs only [go_sem, ↓reduceIte, Nat.reduceEqDiff, Nat.reduceLT, Nat.reduceLeDiff, Nat.reduceAdd, Nat.reduceMul, Nat.reduceSub, reduceCtorEq, Nat.reduceMod, Nat.reduceBEq, Int.reduceBEq, Int.reduceBNe, Int.reduceToNat]
          refine Fresh_spec a _ _ hfa _ _ ?_
          rw [g1]
          simp -implicitDefEqProofs only [go_sem, ↓reduceIte, Nat.reduceEqDiff, Nat.reduceLT, Nat.reduceLeDiff, Nat.reduceAdd, Nat.reduceMul, Nat.reduceSub, reduceCtorEq, Nat.reduceMod, Nat.reduceBEq, Int.reduceBEq, Int.reduceBNe, Int.reduceToNat]
          refine Join_spec a _ _ more (by unfold InR; omega) (by omega) (by omega) _ _ ?_
          generalize hj : joinF a (lastF a.i a.t a.rows).1 (lastF a.i a.t a.rows).2 more = j
          have hend := join_end (more := more) ha
          rw [hj] at hend
          cases hok : j.ok
          · simp -implicitDefEqProofs only [go_sem, ↓reduceIte, Nat.reduceEqDiff, Nat.reduceLT, Nat.reduceLeDiff, Nat.reduceAdd, Nat.reduceMul, Nat.reduceSub, reduceCtorEq, Nat.reduceMod, Nat.reduceBEq, Int.reduceBEq, Int.reduceBNe, Int.reduceToNat, encJ, encG, hok]
            refine awake_spec _ _ ?_
            simp -implicitDefEqProofs only [go_sem, ↓reduceIte, Nat.reduceEqDiff, Nat.reduceLT, Nat.reduceLeDiff, Nat.reduceAdd, Nat.reduceMul, Nat.reduceSub, reduceCtorEq, Nat.reduceMod, Nat.reduceBEq, Int.reduceBEq, Int.reduceBNe, Int.reduceToNat]
            exact ⟨S, fun _ _ h => h, hK⟩
          · obtain ⟨he1, he2⟩ := hend hok
            have hchk : chk j.out = true := by rw [he1]; exact join_end_chk ha he2
            have hfo : Fit j.out := by
              rw [he1]
              unfold Fit
              simp only [List.length_append]
              omega
            have hlast : lastF j.out.i j.out.t j.out.rows = lastF (lastF a.i a.t a.rows).1 (lastF a.i a.t a.rows).2 more := by
              rw [he1]; exact lastF_app _ _ _ _
            have hmo := rise_mono _ _ _ he2
            simp -implicitDefEqProofs only [go_sem, ↓reduceIte, Nat.reduceEqDiff, Nat.reduceLT, Nat.reduceLeDiff, Nat.reduceAdd, Nat.reduceMul, Nat.reduceSub, reduceCtorEq, Nat.reduceMod, Nat.reduceBEq, Int.reduceBEq, Int.reduceBNe, Int.reduceToNat, encJ, encG, hok]
            refine Last_spec j.out hfo _ _ ?_
            rw [hchk]
            simp -implicitDefEqProofs only [go_sem, ↓reduceIte, Nat.reduceEqDiff, Nat.reduceLT, Nat.reduceLeDiff, Nat.reduceAdd, Nat.reduceMul, Nat.reduceSub, reduceCtorEq, Nat.reduceMod, Nat.reduceBEq, Int.reduceBEq, Int.reduceBNe, Int.reduceToNat]
            refine Fresh_spec a _ _ hfa _ _ ?_
            have g4 : freshF a (lastF j.out.i j.out.t j.out.rows).1 (lastF j.out.i j.out.t j.out.rows).2 = true := by
              rw [hlast]
              simp only [freshF, ha, Bool.true_and, Bool.or_eq_true, decide_eq_true_eq, Bool.and_eq_true, beq_iff_eq]
              omega
            rw [g4]
            simp -implicitDefEqProofs only [go_sem, ↓reduceIte, Nat.reduceEqDiff, Nat.reduceLT, Nat.reduceLeDiff, Nat.reduceAdd, Nat.reduceMul, Nat.reduceSub, reduceCtorEq, Nat.reduceMod, Nat.reduceBEq, Int.reduceBEq, Int.reduceBNe, Int.reduceToNat]
            refine awake_spec _ _ ?_
            simp -implicitDefEqProofs only [go_sem, ↓reduceIte, Nat.reduceEqDiff, Nat.reduceLT, Nat.reduceLeDiff, Nat.reduceAdd, Nat.reduceMul, Nat.reduceSub, reduceCtorEq, Nat.reduceMod, Nat.reduceBEq, Int.reduceBEq, Int.reduceBNe, Int.reduceToNat]
            exact ⟨S, fun _ _ h => h, hK⟩
end Go.Proofs.Ytjdfajibflodbaa.V
