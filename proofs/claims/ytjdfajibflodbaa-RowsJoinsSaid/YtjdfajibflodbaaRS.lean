/- Rows: are two lists of entries the same? -/
import Derived.Test.YtjdfajibflodbaaRL2
set_option linter.unusedVariables false
set_option linter.unusedSimpArgs false
namespace Go.Proofs.Ytjdfajibflodbaa.V
open Go Go.VL

theorem pbs_encD : ∀ d : List Int, pbs (encD d) = some d
  | [] => rfl
  | b :: d => by
    have := pbs_encD d
    simp only [encD] at this
    simp only [encD, List.map_cons, pbs, pb1, this]

def sameE (a b : Ent) : Bool := (a.i == b.i) && (a.t == b.t) && ((bsOf a.d).toList == (bsOf b.d).toList)
def sameL : List Ent → List Ent → Bool
  | [], [] => true
  | a :: l, b :: m => sameE a b && sameL l m
  | _, _ => false
theorem sameL_refl : ∀ l : List Ent, sameL l l = true
  | [] => rfl
  | a :: l => by simp [sameL, sameE, sameL_refl l]
theorem sameL_len : ∀ (l m : List Ent), l.length ≠ m.length → sameL l m = false
  | [], [], h => absurd rfl h
  | [], _ :: _, _ => rfl
  | _ :: _, [], _ => rfl
  | a :: l, b :: m, h => by simp [sameL, sameL_len l m (by simpa using h)]

theorem Same_spec (l m : List Ent) (hl : l.length ≤ 100000) (S : Store) : PRet Try.prog 20 [.sl .no 3 (encL l), .sl .no 3 (encL m)] S (.bool (sameL l m)) := by
  intro K hK
  refine pcalls_of (C := C) (fun _ => false) (fun _ => false) Try.func20 rfl rfl (by simp [Try.f20]) ?_
  simp -implicitDefEqProofs only [go_sem, ↓reduceIte, Nat.reduceEqDiff, Nat.reduceLT, Nat.reduceLeDiff, Nat.reduceAdd, Nat.reduceMul, Nat.reduceSub, reduceCtorEq, Nat.reduceMod, Nat.reduceBEq, Int.reduceBEq, Int.reduceBNe, Int.reduceToNat, Try.f20]
  cases h0 : ((l.length : Int) != m.length)
  · have hlen : l.length = m.length := by
      have : (l.length : Int) = m.length := by simpa using h0
      omega
    simp -implicitDefEqProofs only [go_sem, ↓reduceIte, Nat.reduceEqDiff, Nat.reduceLT, Nat.reduceLeDiff, Nat.reduceAdd, Nat.reduceMul, Nat.reduceSub, reduceCtorEq, Nat.reduceMod, Nat.reduceBEq, Int.reduceBEq, Int.reduceBNe, Int.reduceToNat, h0]
    refine vwp_loop (fun e S' => S' = S ∧ ∃ k : Nat, k ≤ l.length ∧ e 0 = .sl .no 3 (encL l) ∧ e 1 = .sl .no 3 (encL m) ∧ e 12 = .int .i64 l.length ∧ e 13 = .int .i64 k ∧ sameL l m = sameL (l.drop k) (m.drop k)) (fun e _ => match e 13 with | .int _ k => l.length - k.toNat | _ => 0) ?_ ?_
    · exact ⟨rfl, 0, Nat.zero_le _, rfl, rfl, rfl, rfl, rfl⟩
    · rintro e S' ⟨rfl, k, hk, e0, e1, e12, e13, hs⟩
      simp -implicitDefEqProofs only [go_sem, ↓reduceIte, Nat.reduceEqDiff, Nat.reduceLT, Nat.reduceLeDiff, Nat.reduceAdd, Nat.reduceMul, Nat.reduceSub, reduceCtorEq, Nat.reduceMod, Nat.reduceBEq, Int.reduceBEq, Int.reduceBNe, Int.reduceToNat, e12, e13]
      by_cases hlt : k < l.length
      · obtain ⟨x, hx⟩ : ∃ x, l[k]? = some x := ⟨_, List.getElem?_eq_getElem hlt⟩
        obtain ⟨y, hy⟩ : ∃ y, m[k]? = some y := ⟨_, List.getElem?_eq_getElem (by omega)⟩
        have hdx : l.drop k = x :: l.drop (k + 1) := by
          rw [List.drop_eq_getElem_cons hlt]
          rw [List.getElem?_eq_getElem hlt] at hx
          injection hx with hx
          rw [hx]
        have hdy : m.drop k = y :: m.drop (k + 1) := by
          rw [List.drop_eq_getElem_cons (by omega)]
          rw [List.getElem?_eq_getElem (by omega)] at hy
          injection hy with hy
          rw [hy]
        rw [hdx, hdy, sameL, sameE] at hs
        have hin : (0 : Int) ≤ k ∧ (k : Int) < l.length := by omega
        have hin2 : (0 : Int) ≤ k ∧ (k : Int) < m.length := by omega
        have hk1 : IntKind.i64.wrap ((k : Int) + 1) = ((k + 1 : Nat) : Int) := wrap64 (by omega) (by omega)
        simp -implicitDefEqProofs only [go_sem, ↓reduceIte, Nat.reduceEqDiff, Nat.reduceLT, Nat.reduceLeDiff, Nat.reduceAdd, Nat.reduceMul, Nat.reduceSub, reduceCtorEq, Nat.reduceMod, Nat.reduceBEq, Int.reduceBEq, Int.reduceBNe, Int.reduceToNat, hin, hin2, e0, e1, e12, e13]
        refine vwp_draw (by decide +kernel) ?_
        simp -implicitDefEqProofs only [go_sem, ↓reduceIte, Nat.reduceEqDiff, Nat.reduceLT, Nat.reduceLeDiff, Nat.reduceAdd, Nat.reduceMul, Nat.reduceSub, reduceCtorEq, Nat.reduceMod, Nat.reduceBEq, Int.reduceBEq, Int.reduceBNe, Int.reduceToNat, hin, hin2, e0, e1, e12, e13, getD_encL hx, getD_encL hy, encE]
        cases a1 : (x.i != y.i)
        · simp -implicitDefEqProofs only [go_sem, ↓reduceIte, Nat.reduceEqDiff, Nat.reduceLT, Nat.reduceLeDiff, Nat.reduceAdd, Nat.reduceMul, Nat.reduceSub, reduceCtorEq, Nat.reduceMod, Nat.reduceBEq, Int.reduceBEq, Int.reduceBNe, Int.reduceToNat, a1, hin, hin2, e0, e1, getD_encL hx, getD_encL hy, encE]
          cases a2 : (x.t != y.t)
          · simp -implicitDefEqProofs only [go_sem, ↓reduceIte, Nat.reduceEqDiff, Nat.reduceLT, Nat.reduceLeDiff, Nat.reduceAdd, Nat.reduceMul, Nat.reduceSub, reduceCtorEq, Nat.reduceMod, Nat.reduceBEq, Int.reduceBEq, Int.reduceBNe, Int.reduceToNat, a2, pbs_encD, hin, hin2, e0, e1, getD_encL hx, getD_encL hy, encE]
            cases a3 : (bsOf x.d).toList == (bsOf y.d).toList
            · simp -implicitDefEqProofs only [go_sem, ↓reduceIte, Nat.reduceEqDiff, Nat.reduceLT, Nat.reduceLeDiff, Nat.reduceAdd, Nat.reduceMul, Nat.reduceSub, reduceCtorEq, Nat.reduceMod, Nat.reduceBEq, Int.reduceBEq, Int.reduceBNe, Int.reduceToNat, a3, hin, hin2, e0, e1, getD_encL hx, getD_encL hy, encE]
              rw [hs, a3] at hK
              simp only [Bool.and_false, Bool.false_and] at hK
              exact ⟨S', fun _ _ h => h, hK⟩
            · simp -implicitDefEqProofs only [go_sem, ↓reduceIte, Nat.reduceEqDiff, Nat.reduceLT, Nat.reduceLeDiff, Nat.reduceAdd, Nat.reduceMul, Nat.reduceSub, reduceCtorEq, Nat.reduceMod, Nat.reduceBEq, Int.reduceBEq, Int.reduceBNe, Int.reduceToNat, a3, e13, hk1, hin, hin2, e0, e1, getD_encL hx, getD_encL hy, encE]
              refine ⟨S', fun _ _ h => h, ⟨rfl, k + 1, hlt, ?_, ?_, ?_, ?_, ?_⟩, ?_⟩
              · simp -implicitDefEqProofs only [go_sem, ↓reduceIte, Nat.reduceEqDiff, Nat.reduceLT, Nat.reduceLeDiff, Nat.reduceAdd, Nat.reduceMul, Nat.reduceSub, reduceCtorEq, Nat.reduceMod, Nat.reduceBEq, Int.reduceBEq, Int.reduceBNe, Int.reduceToNat, e0]
              · simp -implicitDefEqProofs only [go_sem, ↓reduceIte, Nat.reduceEqDiff, Nat.reduceLT, Nat.reduceLeDiff, Nat.reduceAdd, Nat.reduceMul, Nat.reduceSub, reduceCtorEq, Nat.reduceMod, Nat.reduceBEq, Int.reduceBEq, Int.reduceBNe, Int.reduceToNat, e1]
              · simp -implicitDefEqProofs only [go_sem, ↓reduceIte, Nat.reduceEqDiff, Nat.reduceLT, Nat.reduceLeDiff, Nat.reduceAdd, Nat.reduceMul, Nat.reduceSub, reduceCtorEq, Nat.reduceMod, Nat.reduceBEq, Int.reduceBEq, Int.reduceBNe, Int.reduceToNat, e12]
              · simp -implicitDefEqProofs only [go_sem, ↓reduceIte, Nat.reduceEqDiff, Nat.reduceLT, Nat.reduceLeDiff, Nat.reduceAdd, Nat.reduceMul, Nat.reduceSub, reduceCtorEq, Nat.reduceMod, Nat.reduceBEq, Int.reduceBEq, Int.reduceBNe, Int.reduceToNat]
              · rw [hs, a3]
                have b1 : (x.i == y.i) = true := by simpa using a1
                have b2 : (x.t == y.t) = true := by simpa using a2
                rw [b1, b2]
                rfl
              · simp -implicitDefEqProofs only [go_sem, ↓reduceIte, Nat.reduceEqDiff, Nat.reduceLT, Nat.reduceLeDiff, Nat.reduceAdd, Nat.reduceMul, Nat.reduceSub, reduceCtorEq, Nat.reduceMod, Nat.reduceBEq, Int.reduceBEq, Int.reduceBNe, Int.reduceToNat]
                omega
          · simp -implicitDefEqProofs only [go_sem, ↓reduceIte, Nat.reduceEqDiff, Nat.reduceLT, Nat.reduceLeDiff, Nat.reduceAdd, Nat.reduceMul, Nat.reduceSub, reduceCtorEq, Nat.reduceMod, Nat.reduceBEq, Int.reduceBEq, Int.reduceBNe, Int.reduceToNat, a2, hin, hin2, e0, e1, getD_encL hx, getD_encL hy, encE]
            have b2 : (x.t == y.t) = false := by simpa using a2
            rw [hs, b2] at hK
            simp only [Bool.and_false, Bool.false_and] at hK
            exact ⟨S', fun _ _ h => h, hK⟩
        · simp -implicitDefEqProofs only [go_sem, ↓reduceIte, Nat.reduceEqDiff, Nat.reduceLT, Nat.reduceLeDiff, Nat.reduceAdd, Nat.reduceMul, Nat.reduceSub, reduceCtorEq, Nat.reduceMod, Nat.reduceBEq, Int.reduceBEq, Int.reduceBNe, Int.reduceToNat, a1, hin, hin2, e0, e1, getD_encL hx, getD_encL hy, encE]
          have b1 : (x.i == y.i) = false := by simpa using a1
          rw [hs, b1] at hK
          simp only [Bool.and_false, Bool.false_and] at hK
          exact ⟨S', fun _ _ h => h, hK⟩
      · have hcc : ¬ (k : Int) < l.length := by omega
        simp -implicitDefEqProofs only [go_sem, ↓reduceIte, Nat.reduceEqDiff, Nat.reduceLT, Nat.reduceLeDiff, Nat.reduceAdd, Nat.reduceMul, Nat.reduceSub, reduceCtorEq, Nat.reduceMod, Nat.reduceBEq, Int.reduceBEq, Int.reduceBNe, Int.reduceToNat, hcc]
        rw [List.drop_of_length_le (by omega), List.drop_of_length_le (by omega)] at hs
        rw [hs] at hK
        exact ⟨S', fun _ _ h => h, hK⟩
  · simp -implicitDefEqProofs only [go_sem, ↓reduceIte, Nat.reduceEqDiff, Nat.reduceLT, Nat.reduceLeDiff, Nat.reduceAdd, Nat.reduceMul, Nat.reduceSub, reduceCtorEq, Nat.reduceMod, Nat.reduceBEq, Int.reduceBEq, Int.reduceBNe, Int.reduceToNat, h0]
    have hlen : l.length ≠ m.length := by
      have : (l.length : Int) ≠ m.length := by simpa using h0
      omega
    rw [sameL_len l m hlen] at hK
    exact ⟨S, fun _ _ h => h, hK⟩
end Go.Proofs.Ytjdfajibflodbaa.V
