/- Rows: do entries go on? -/
import Derived.Test.YtjdfajibflodbaaRA
set_option linter.unusedVariables false
set_option linter.unusedSimpArgs false
namespace Go.Proofs.Ytjdfajibflodbaa.V
open Go Go.VL

def rise : Int → Int → List Ent → Bool
  | _, _, [] => true
  | i, t, e :: l => within i 0 && (e.i == i + 1) && within e.i 1 && within e.t (max t 1) && decide (e.d.length ≤ 8192) && rise e.i e.t l

theorem rise_spec (i t : Int) (l : List Ent) (hl : l.length ≤ 140737488355328) (S : Store) : PRet Try.prog 41 [.int .i64 i, .int .i64 t, .sl .no 3 (encL l)] S (.bool (rise i t l)) := by
  intro K hK
  refine pcalls_of (C := C) (fun _ => false) (fun _ => false) Try.func41 rfl rfl (by simp [Try.f41]) ?_
  simp -implicitDefEqProofs only [go_sem, ↓reduceIte, Nat.reduceEqDiff, Nat.reduceLT, Nat.reduceLeDiff, Nat.reduceAdd, Nat.reduceMul, Nat.reduceSub, reduceCtorEq, Nat.reduceMod, Nat.reduceBEq, Int.reduceBEq, Int.reduceBNe, Int.reduceToNat, Try.f41]
  refine vwp_loop (fun e S' => S' = S ∧ ∃ (k : Nat) (idx tm : Int), k ≤ l.length ∧ e 0 = .int .i64 idx ∧ e 1 = .int .i64 tm ∧ e 9 = .sl .no 3 (encL l) ∧ e 10 = .int .i64 l.length ∧ e 11 = .int .i64 k ∧ rise i t l = rise idx tm (l.drop k)) (fun e _ => match e 11 with | .int _ k => l.length - k.toNat | _ => 0) ?_ ?_
  · exact ⟨rfl, 0, i, t, Nat.zero_le _, rfl, rfl, rfl, rfl, rfl, rfl⟩
  · rintro e S' ⟨rfl, k, idx, tm, hk, h0, h1, h9, h10, h11, hr⟩
    simp -implicitDefEqProofs only [go_sem, ↓reduceIte, Nat.reduceEqDiff, Nat.reduceLT, Nat.reduceLeDiff, Nat.reduceAdd, Nat.reduceMul, Nat.reduceSub, reduceCtorEq, Nat.reduceMod, Nat.reduceBEq, Int.reduceBEq, Int.reduceBNe, Int.reduceToNat, h0, h1, h9, h10, h11]
    by_cases hlt : k < l.length
    · obtain ⟨e0, hd⟩ : ∃ e0, l.drop k = e0 :: l.drop (k + 1) := ⟨l[k], List.drop_eq_getElem_cons hlt⟩
      have hget : (encL l).getD k [] = encE e0 := by
        have h2 : l[k]? = some e0 := by
          have := congrArg (·[0]?) hd
          simpa using this
        simp [encL, List.getD_eq_getElem?_getD, h2]
      rw [hd] at hr
      have hc : decide ((k : Int) < l.length) = true := by rw [decide_eq_true_eq]; omega
      have hin : (0 : Int) ≤ k ∧ (k : Int) < l.length := by omega
      simp -implicitDefEqProofs only [go_sem, ↓reduceIte, Nat.reduceEqDiff, Nat.reduceLT, Nat.reduceLeDiff, Nat.reduceAdd, Nat.reduceMul, Nat.reduceSub, reduceCtorEq, Nat.reduceMod, Nat.reduceBEq, Int.reduceBEq, Int.reduceBNe, Int.reduceToNat, hc, hin, hget, h0, h1, h9, h10, h11, encE]
      refine within_spec _ _ _ _ ?_
      cases a1 : within idx 0
      · simp -implicitDefEqProofs only [go_sem, ↓reduceIte, Nat.reduceEqDiff, Nat.reduceLT, Nat.reduceLeDiff, Nat.reduceAdd, Nat.reduceMul, Nat.reduceSub, reduceCtorEq, Nat.reduceMod, Nat.reduceBEq, Int.reduceBEq, Int.reduceBNe, Int.reduceToNat, a1]
        rw [hr] at hK
        simp only [rise, a1, Bool.false_and] at hK
        exact ⟨S', fun _ _ h => h, hK⟩
      · have b1 := within_iff.1 a1
        have hw : IntKind.i64.wrap (idx + 1) = idx + 1 := wrap64 (by omega) (by omega)
        simp -implicitDefEqProofs only [go_sem, ↓reduceIte, Nat.reduceEqDiff, Nat.reduceLT, Nat.reduceLeDiff, Nat.reduceAdd, Nat.reduceMul, Nat.reduceSub, reduceCtorEq, Nat.reduceMod, Nat.reduceBEq, Int.reduceBEq, Int.reduceBNe, Int.reduceToNat, a1, h0, hw]
        cases a2 : e0.i != idx + 1
        · have b2 : e0.i = idx + 1 := by simpa using a2
          simp -implicitDefEqProofs only [go_sem, ↓reduceIte, Nat.reduceEqDiff, Nat.reduceLT, Nat.reduceLeDiff, Nat.reduceAdd, Nat.reduceMul, Nat.reduceSub, reduceCtorEq, Nat.reduceMod, Nat.reduceBEq, Int.reduceBEq, Int.reduceBNe, Int.reduceToNat, a2]
          refine within_spec _ _ _ _ ?_
          cases a3 : within e0.i 1
          · simp -implicitDefEqProofs only [go_sem, ↓reduceIte, Nat.reduceEqDiff, Nat.reduceLT, Nat.reduceLeDiff, Nat.reduceAdd, Nat.reduceMul, Nat.reduceSub, reduceCtorEq, Nat.reduceMod, Nat.reduceBEq, Int.reduceBEq, Int.reduceBNe, Int.reduceToNat, a3]
            rw [hr] at hK
            simp only [rise, a3, Bool.and_false, Bool.false_and] at hK
            exact ⟨S', fun _ _ h => h, hK⟩
          · simp -implicitDefEqProofs only [go_sem, ↓reduceIte, Nat.reduceEqDiff, Nat.reduceLT, Nat.reduceLeDiff, Nat.reduceAdd, Nat.reduceMul, Nat.reduceSub, reduceCtorEq, Nat.reduceMod, Nat.reduceBEq, Int.reduceBEq, Int.reduceBNe, Int.reduceToNat, a3, h1]
            refine within_spec _ _ _ _ ?_
            have hmx : (if (1 : Int) > tm then 1 else tm) = max tm 1 := by
              split <;> omega
            rw [hmx]
            cases a4 : within e0.t (max tm 1)
            · simp -implicitDefEqProofs only [go_sem, ↓reduceIte, Nat.reduceEqDiff, Nat.reduceLT, Nat.reduceLeDiff, Nat.reduceAdd, Nat.reduceMul, Nat.reduceSub, reduceCtorEq, Nat.reduceMod, Nat.reduceBEq, Int.reduceBEq, Int.reduceBNe, Int.reduceToNat, a4]
              rw [hr] at hK
              simp only [rise, a4, Bool.and_false, Bool.false_and] at hK
              exact ⟨S', fun _ _ h => h, hK⟩
            · simp -implicitDefEqProofs only [go_sem, ↓reduceIte, Nat.reduceEqDiff, Nat.reduceLT, Nat.reduceLeDiff, Nat.reduceAdd, Nat.reduceMul, Nat.reduceSub, reduceCtorEq, Nat.reduceMod, Nat.reduceBEq, Int.reduceBEq, Int.reduceBNe, Int.reduceToNat, a4]
              by_cases a5 : (8192 : Int) < e0.d.length
              · simp -implicitDefEqProofs only [go_sem, ↓reduceIte, Nat.reduceEqDiff, Nat.reduceLT, Nat.reduceLeDiff, Nat.reduceAdd, Nat.reduceMul, Nat.reduceSub, reduceCtorEq, Nat.reduceMod, Nat.reduceBEq, Int.reduceBEq, Int.reduceBNe, Int.reduceToNat, a5]
                rw [hr] at hK
                have a5' : decide (e0.d.length ≤ 8192) = false := by rw [decide_eq_false_iff_not]; omega
                simp only [rise, a5', Bool.and_false, Bool.false_and] at hK
                exact ⟨S', fun _ _ h => h, hK⟩
              · simp -implicitDefEqProofs only [go_sem, ↓reduceIte, Nat.reduceEqDiff, Nat.reduceLT, Nat.reduceLeDiff, Nat.reduceAdd, Nat.reduceMul, Nat.reduceSub, reduceCtorEq, Nat.reduceMod, Nat.reduceBEq, Int.reduceBEq, Int.reduceBNe, Int.reduceToNat, a5]
                refine vwp_draw (by decide +kernel) ?_
                simp -implicitDefEqProofs only [go_sem, ↓reduceIte, Nat.reduceEqDiff, Nat.reduceLT, Nat.reduceLeDiff, Nat.reduceAdd, Nat.reduceMul, Nat.reduceSub, reduceCtorEq, Nat.reduceMod, Nat.reduceBEq, Int.reduceBEq, Int.reduceBNe, Int.reduceToNat, h0, h1, h9, h10, h11]
                have hk1 : IntKind.i64.wrap ((k : Int) + 1) = ((k + 1 : Nat) : Int) := wrap64 (by omega) (by omega)
                refine ⟨S', fun _ _ h => h, ⟨rfl, k + 1, e0.i, e0.t, hlt, rfl, rfl, ?_, ?_, ?_, ?_⟩, ?_⟩
                · simp -implicitDefEqProofs only [go_sem, ↓reduceIte, Nat.reduceEqDiff, Nat.reduceLT, Nat.reduceLeDiff, Nat.reduceAdd, Nat.reduceMul, Nat.reduceSub, reduceCtorEq, Nat.reduceMod, Nat.reduceBEq, Int.reduceBEq, Int.reduceBNe, Int.reduceToNat, h9]
                · simp -implicitDefEqProofs only [go_sem, ↓reduceIte, Nat.reduceEqDiff, Nat.reduceLT, Nat.reduceLeDiff, Nat.reduceAdd, Nat.reduceMul, Nat.reduceSub, reduceCtorEq, Nat.reduceMod, Nat.reduceBEq, Int.reduceBEq, Int.reduceBNe, Int.reduceToNat, h10]
                · simp -implicitDefEqProofs only [go_sem, ↓reduceIte, Nat.reduceEqDiff, Nat.reduceLT, Nat.reduceLeDiff, Nat.reduceAdd, Nat.reduceMul, Nat.reduceSub, reduceCtorEq, Nat.reduceMod, Nat.reduceBEq, Int.reduceBEq, Int.reduceBNe, Int.reduceToNat, hk1]
                · rw [hr]
                  have b5 : decide (e0.d.length ≤ 8192) = true := by rw [decide_eq_true_eq]; omega
                  have b1' : (e0.i == idx + 1) = true := by simp [b2]
                  simp only [rise, a1, b1', a3, a4, b5, Bool.true_and]
                · simp -implicitDefEqProofs only [go_sem, ↓reduceIte, Nat.reduceEqDiff, Nat.reduceLT, Nat.reduceLeDiff, Nat.reduceAdd, Nat.reduceMul, Nat.reduceSub, reduceCtorEq, Nat.reduceMod, Nat.reduceBEq, Int.reduceBEq, Int.reduceBNe, Int.reduceToNat, hk1]
                  omega
        · simp -implicitDefEqProofs only [go_sem, ↓reduceIte, Nat.reduceEqDiff, Nat.reduceLT, Nat.reduceLeDiff, Nat.reduceAdd, Nat.reduceMul, Nat.reduceSub, reduceCtorEq, Nat.reduceMod, Nat.reduceBEq, Int.reduceBEq, Int.reduceBNe, Int.reduceToNat, a2]
          rw [hr] at hK
          have b2 : (e0.i == idx + 1) = false := by
            simpa using a2
          simp only [rise, b2, Bool.and_false, Bool.false_and] at hK
          exact ⟨S', fun _ _ h => h, hK⟩
    · have hc : decide ((k : Int) < l.length) = false := by rw [decide_eq_false_iff_not]; omega
      simp -implicitDefEqProofs only [go_sem, ↓reduceIte, Nat.reduceEqDiff, Nat.reduceLT, Nat.reduceLeDiff, Nat.reduceAdd, Nat.reduceMul, Nat.reduceSub, reduceCtorEq, Nat.reduceMod, Nat.reduceBEq, Int.reduceBEq, Int.reduceBNe, Int.reduceToNat, hc, h0, h1, h9, h10, h11]
      rw [List.drop_of_length_le (by omega)] at hr
      rw [hr] at hK
      exact ⟨S', fun _ _ h => h, hK⟩
end Go.Proofs.Ytjdfajibflodbaa.V
