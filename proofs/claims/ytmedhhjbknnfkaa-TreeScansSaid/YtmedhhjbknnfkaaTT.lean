/- Trees: what may be gone through. -/
import Derived.Test.YtmedhhjbknnfkaaTS
set_option linter.unusedVariables false
set_option linter.unusedSimpArgs false
namespace Go.Proofs.Ytmedhhjbknnfkaa.V
open Go Go.VL

def encDos (l : List Do) : List (List PV) := l.map encDo
@[go_sem] theorem len_encDos (l : List Do) : (encDos l).length = l.length := by simp [encDos]
theorem getD_encDos {l : List Do} {k : Nat} {d : Do} (h : l[k]? = some d) : (encDos l).getD k [] = [.int .i64 d.op, .str d.k, .str d.v] := by
  simp [encDos, encDo, List.getD_eq_getElem?_getD, h]
def encDL (L : List (List Do)) : List (List PV) := L.map fun l => [.sl .no 3 (encDos l)]
@[go_sem] theorem len_encDL (L : List (List Do)) : (encDL L).length = L.length := by simp [encDL]
theorem getD_encDL {L : List (List Do)} {k : Nat} {l : List Do} (h : L[k]? = some l) : (encDL L).getD k [] = [.sl .no 3 (encDos l)] := by
  simp [encDL, List.getD_eq_getElem?_getD, h]
def cost (d : Do) : Nat := min d.k.size 16384 + min d.v.size 16384
def shortI (n : Nat) : List Do → Option Nat
  | [] => some n
  | d :: l => if n + cost d > 16384 then none else shortI (n + cost d) l
def shortF (n : Nat) : List (List Do) → Bool
  | [] => true
  | l :: L => if l.length > 300 then false else (match shortI n l with | none => false | some m => shortF m L)
theorem short_len : ∀ (L : List (List Do)) (n : Nat), shortF n L = true → ∀ l ∈ L, l.length ≤ 300
  | [], _, _, l, h => by simp at h
  | l0 :: L, n, h, l, hm => by
    unfold shortF at h
    split at h
    · cases h
    · rcases List.mem_cons.1 hm with rfl | hm
      · omega
      · split at h
        · cases h
        · exact short_len L _ h l hm

theorem drop_cons {α : Type} {l : List α} {k : Nat} {x : α} (h : l[k]? = some x) : l.drop k = x :: l.drop (k + 1) := by
  obtain ⟨hlt, hx⟩ := List.getElem?_eq_some_iff.1 h
  rw [List.drop_eq_getElem_cons hlt, hx]

set_option maxHeartbeats 1000000 in
theorem short_spec (L : List (List Do)) (hL : L.length ≤ 1000) (S : Store) : PRet Try.prog 15 [.sl .no 1 (encDL L)] S (.bool (shortF 0 L)) := by
  intro K hK
  refine pcalls_of (C := C) (fun _ => false) (fun _ => false) Try.func15 rfl rfl (by simp [Try.f15]) ?_
  simp -implicitDefEqProofs only [go_sem, ↓reduceIte, Nat.reduceEqDiff, Nat.reduceLT, Nat.reduceLeDiff, Nat.reduceAdd, Nat.reduceMul, Nat.reduceSub, reduceCtorEq, Nat.reduceMod, Nat.reduceBEq, Int.reduceBEq, Int.reduceBNe, Int.reduceToNat, Try.f15]
  refine vloop (fun e S' => S' = S ∧ ∃ k n : Nat, k ≤ L.length ∧ n ≤ 16384 ∧ e 8 = .sl .no 1 (encDL L) ∧ e 9 = .int .i64 L.length ∧ e 10 = .int .i64 k ∧ e 3 = .int .i64 n ∧ shortF 0 L = shortF n (L.drop k)) (fun e _ => L.length - iv (e 10)) ?_ ?_
  · exact ⟨rfl, 0, 0, Nat.zero_le _, Nat.zero_le _, rfl, rfl, rfl, rfl, rfl⟩
  · rintro J M Q' hJ hM hQ e S' ⟨rfl, k, n, hk, hn, h8, h9, h10, h3, hr⟩
    by_cases hlt : k < L.length
    · obtain ⟨x, hx⟩ : ∃ x, L[k]? = some x := ⟨_, List.getElem?_eq_getElem hlt⟩
      rw [drop_cons hx, shortF] at hr
      have hin : (0 : Int) ≤ k ∧ (k : Int) < L.length := by omega
      have hk1 : IntKind.i64.wrap ((k : Int) + 1) = ((k + 1 : Nat) : Int) := wrap64 (by omega) (by omega)
      by_cases c1 : x.length > 300
      · have d1 : (300 : Int) < x.length := by omega
        rw [if_pos c1] at hr
        rw [hr] at hK
        simp -implicitDefEqProofs only [go_sem, ↓reduceIte, Nat.reduceEqDiff, Nat.reduceLT, Nat.reduceLeDiff, Nat.reduceAdd, Nat.reduceMul, Nat.reduceSub, reduceCtorEq, Nat.reduceMod, Nat.reduceBEq, Int.reduceBEq, Int.reduceBNe, Int.reduceToNat, hin, hlt, h8, h9, h10, getD_encDL hx, d1]
        refine hQ _ _ _ ?_
        simp -implicitDefEqProofs only [go_sem, ↓reduceIte, Nat.reduceEqDiff, Nat.reduceLT, Nat.reduceLeDiff, Nat.reduceAdd, Nat.reduceMul, Nat.reduceSub, reduceCtorEq, Nat.reduceMod, Nat.reduceBEq, Int.reduceBEq, Int.reduceBNe, Int.reduceToNat]
        exact ⟨S', fun _ _ h => h, hK⟩
      · have d1 : ¬ (300 : Int) < x.length := by omega
        rw [if_neg c1] at hr
        simp -implicitDefEqProofs only [go_sem, ↓reduceIte, Nat.reduceEqDiff, Nat.reduceLT, Nat.reduceLeDiff, Nat.reduceAdd, Nat.reduceMul, Nat.reduceSub, reduceCtorEq, Nat.reduceMod, Nat.reduceBEq, Int.reduceBEq, Int.reduceBNe, Int.reduceToNat, hin, hlt, h8, h9, h10, getD_encDL hx, d1]
        refine vloop (fun e S2 => S2 = S' ∧ ∃ i m : Nat, i ≤ x.length ∧ m ≤ 16384 ∧ e 8 = .sl .no 1 (encDL L) ∧ e 9 = .int .i64 L.length ∧ e 10 = .int .i64 k ∧ e 3 = .int .i64 m ∧ e 17 = .sl .no 3 (encDos x) ∧ e 18 = .int .i64 x.length ∧ e 19 = .int .i64 i ∧ shortI n x = shortI m (x.drop i)) (fun e _ => x.length - iv (e 19)) ?_ ?_
        · exact ⟨rfl, 0, n, Nat.zero_le _, hn, by simp -implicitDefEqProofs only [go_sem, ↓reduceIte, Nat.reduceEqDiff, Nat.reduceLT, Nat.reduceLeDiff, Nat.reduceAdd, Nat.reduceMul, Nat.reduceSub, reduceCtorEq, Nat.reduceMod, Nat.reduceBEq, Int.reduceBEq, Int.reduceBNe, Int.reduceToNat, h8], by simp -implicitDefEqProofs only [go_sem, ↓reduceIte, Nat.reduceEqDiff, Nat.reduceLT, Nat.reduceLeDiff, Nat.reduceAdd, Nat.reduceMul, Nat.reduceSub, reduceCtorEq, Nat.reduceMod, Nat.reduceBEq, Int.reduceBEq, Int.reduceBNe, Int.reduceToNat, h9], by simp -implicitDefEqProofs only [go_sem, ↓reduceIte, Nat.reduceEqDiff, Nat.reduceLT, Nat.reduceLeDiff, Nat.reduceAdd, Nat.reduceMul, Nat.reduceSub, reduceCtorEq, Nat.reduceMod, Nat.reduceBEq, Int.reduceBEq, Int.reduceBNe, Int.reduceToNat, h10], by simp -implicitDefEqProofs only [go_sem, ↓reduceIte, Nat.reduceEqDiff, Nat.reduceLT, Nat.reduceLeDiff, Nat.reduceAdd, Nat.reduceMul, Nat.reduceSub, reduceCtorEq, Nat.reduceMod, Nat.reduceBEq, Int.reduceBEq, Int.reduceBNe, Int.reduceToNat, h3], by simp -implicitDefEqProofs only [go_sem, ↓reduceIte, Nat.reduceEqDiff, Nat.reduceLT, Nat.reduceLeDiff, Nat.reduceAdd, Nat.reduceMul, Nat.reduceSub, reduceCtorEq, Nat.reduceMod, Nat.reduceBEq, Int.reduceBEq, Int.reduceBNe, Int.reduceToNat], by simp -implicitDefEqProofs only [go_sem, ↓reduceIte, Nat.reduceEqDiff, Nat.reduceLT, Nat.reduceLeDiff, Nat.reduceAdd, Nat.reduceMul, Nat.reduceSub, reduceCtorEq, Nat.reduceMod, Nat.reduceBEq, Int.reduceBEq, Int.reduceBNe, Int.reduceToNat], by simp -implicitDefEqProofs only [go_sem, ↓reduceIte, Nat.reduceEqDiff, Nat.reduceLT, Nat.reduceLeDiff, Nat.reduceAdd, Nat.reduceMul, Nat.reduceSub, reduceCtorEq, Nat.reduceMod, Nat.reduceBEq, Int.reduceBEq, Int.reduceBNe, Int.reduceToNat], rfl⟩
        · rintro J2 M2 Q2 hJ2 hM2 hQ2 e' S2 ⟨rfl, i, m, hi, hm, g8, g9, g10, g3, g17, g18, g19, ha⟩
          by_cases hl2 : i < x.length
          · obtain ⟨y, hy⟩ : ∃ y, x[i]? = some y := ⟨_, List.getElem?_eq_getElem hl2⟩
            rw [drop_cons hy, shortI] at ha
            have hin2 : (0 : Int) ≤ i ∧ (i : Int) < x.length := by omega
            have hi1 : IntKind.i64.wrap ((i : Int) + 1) = ((i + 1 : Nat) : Int) := wrap64 (by omega) (by omega)
            have m1 : (if (16384 : Int) < (y.k.size : Int) then (16384 : Int) else (y.k.size : Int)) = ((min y.k.size 16384 : Nat) : Int) := by split <;> omega
            have m2 : (if (16384 : Int) < (y.v.size : Int) then (16384 : Int) else (y.v.size : Int)) = ((min y.v.size 16384 : Nat) : Int) := by split <;> omega
            have w1 : IntKind.i64.wrap (((min y.k.size 16384 : Nat) : Int) + ((min y.v.size 16384 : Nat) : Int)) = (cost y : Int) := by unfold cost; rw [wrap64 (by omega) (by omega)]; omega
            have hcy : cost y ≤ 32768 := by unfold cost; omega
            have w2 : IntKind.i64.wrap ((m : Int) + (cost y : Int)) = ((m + cost y : Nat) : Int) := by rw [wrap64 (by omega) (by omega)]; omega
            by_cases c2 : m + cost y > 16384
            · have d2 : (16384 : Int) < ((m + cost y : Nat) : Int) := by omega
              rw [if_pos c2] at ha
              rw [ha] at hr
              rw [hr] at hK
              simp -implicitDefEqProofs only [go_sem, ↓reduceIte, Nat.reduceEqDiff, Nat.reduceLT, Nat.reduceLeDiff, Nat.reduceAdd, Nat.reduceMul, Nat.reduceSub, reduceCtorEq, Nat.reduceMod, Nat.reduceBEq, Int.reduceBEq, Int.reduceBNe, Int.reduceToNat, hin2, hl2, g17, g18, g19, g3, getD_encDos hy, m1, m2, w1, w2, d2]
              refine hQ2 _ _ _ ?_
              refine hQ _ _ _ ?_
              simp -implicitDefEqProofs only [go_sem, ↓reduceIte, Nat.reduceEqDiff, Nat.reduceLT, Nat.reduceLeDiff, Nat.reduceAdd, Nat.reduceMul, Nat.reduceSub, reduceCtorEq, Nat.reduceMod, Nat.reduceBEq, Int.reduceBEq, Int.reduceBNe, Int.reduceToNat]
              exact ⟨S2, fun _ _ h => h, hK⟩
            · have d2 : ¬ (16384 : Int) < ((m + cost y : Nat) : Int) := by omega
              rw [if_neg c2] at ha
              simp -implicitDefEqProofs only [go_sem, ↓reduceIte, Nat.reduceEqDiff, Nat.reduceLT, Nat.reduceLeDiff, Nat.reduceAdd, Nat.reduceMul, Nat.reduceSub, reduceCtorEq, Nat.reduceMod, Nat.reduceBEq, Int.reduceBEq, Int.reduceBNe, Int.reduceToNat, hin2, hl2, g17, g18, g19, g3, getD_encDos hy, m1, m2, w1, w2, d2, hi1]
              refine vnext hJ2 hM2 S2 (fun _ _ h => h) ⟨rfl, i + 1, m + cost y, hl2, by omega, ?_, ?_, ?_, ?_, ?_, ?_, ?_, ha⟩ ?_
              · simp -implicitDefEqProofs only [go_sem, ↓reduceIte, Nat.reduceEqDiff, Nat.reduceLT, Nat.reduceLeDiff, Nat.reduceAdd, Nat.reduceMul, Nat.reduceSub, reduceCtorEq, Nat.reduceMod, Nat.reduceBEq, Int.reduceBEq, Int.reduceBNe, Int.reduceToNat, g8]
              · simp -implicitDefEqProofs only [go_sem, ↓reduceIte, Nat.reduceEqDiff, Nat.reduceLT, Nat.reduceLeDiff, Nat.reduceAdd, Nat.reduceMul, Nat.reduceSub, reduceCtorEq, Nat.reduceMod, Nat.reduceBEq, Int.reduceBEq, Int.reduceBNe, Int.reduceToNat, g9]
              · simp -implicitDefEqProofs only [go_sem, ↓reduceIte, Nat.reduceEqDiff, Nat.reduceLT, Nat.reduceLeDiff, Nat.reduceAdd, Nat.reduceMul, Nat.reduceSub, reduceCtorEq, Nat.reduceMod, Nat.reduceBEq, Int.reduceBEq, Int.reduceBNe, Int.reduceToNat, g10]
              · simp -implicitDefEqProofs only [go_sem, ↓reduceIte, Nat.reduceEqDiff, Nat.reduceLT, Nat.reduceLeDiff, Nat.reduceAdd, Nat.reduceMul, Nat.reduceSub, reduceCtorEq, Nat.reduceMod, Nat.reduceBEq, Int.reduceBEq, Int.reduceBNe, Int.reduceToNat]
              · simp -implicitDefEqProofs only [go_sem, ↓reduceIte, Nat.reduceEqDiff, Nat.reduceLT, Nat.reduceLeDiff, Nat.reduceAdd, Nat.reduceMul, Nat.reduceSub, reduceCtorEq, Nat.reduceMod, Nat.reduceBEq, Int.reduceBEq, Int.reduceBNe, Int.reduceToNat, g17]
              · simp -implicitDefEqProofs only [go_sem, ↓reduceIte, Nat.reduceEqDiff, Nat.reduceLT, Nat.reduceLeDiff, Nat.reduceAdd, Nat.reduceMul, Nat.reduceSub, reduceCtorEq, Nat.reduceMod, Nat.reduceBEq, Int.reduceBEq, Int.reduceBNe, Int.reduceToNat, g18]
              · simp -implicitDefEqProofs only [go_sem, ↓reduceIte, Nat.reduceEqDiff, Nat.reduceLT, Nat.reduceLeDiff, Nat.reduceAdd, Nat.reduceMul, Nat.reduceSub, reduceCtorEq, Nat.reduceMod, Nat.reduceBEq, Int.reduceBEq, Int.reduceBNe, Int.reduceToNat]
              · simp -implicitDefEqProofs only [go_sem, ↓reduceIte, Nat.reduceEqDiff, Nat.reduceLT, Nat.reduceLeDiff, Nat.reduceAdd, Nat.reduceMul, Nat.reduceSub, reduceCtorEq, Nat.reduceMod, Nat.reduceBEq, Int.reduceBEq, Int.reduceBNe, Int.reduceToNat, g19]
                omega
          · have hcc : ¬ (i : Int) < x.length := by omega
            simp -implicitDefEqProofs only [go_sem, ↓reduceIte, Nat.reduceEqDiff, Nat.reduceLT, Nat.reduceLeDiff, Nat.reduceAdd, Nat.reduceMul, Nat.reduceSub, reduceCtorEq, Nat.reduceMod, Nat.reduceBEq, Int.reduceBEq, Int.reduceBNe, Int.reduceToNat, hcc, g18, g19]
            refine hQ2 _ _ _ ?_
            rw [List.drop_of_length_le (by omega), shortI] at ha
            rw [ha] at hr
            simp -implicitDefEqProofs only [go_sem, ↓reduceIte, Nat.reduceEqDiff, Nat.reduceLT, Nat.reduceLeDiff, Nat.reduceAdd, Nat.reduceMul, Nat.reduceSub, reduceCtorEq, Nat.reduceMod, Nat.reduceBEq, Int.reduceBEq, Int.reduceBNe, Int.reduceToNat, g10, hk1]
            refine vnext hJ hM S2 (fun _ _ h => h) ⟨rfl, k + 1, m, hlt, hm, ?_, ?_, ?_, ?_, hr⟩ ?_
            · simp -implicitDefEqProofs only [go_sem, ↓reduceIte, Nat.reduceEqDiff, Nat.reduceLT, Nat.reduceLeDiff, Nat.reduceAdd, Nat.reduceMul, Nat.reduceSub, reduceCtorEq, Nat.reduceMod, Nat.reduceBEq, Int.reduceBEq, Int.reduceBNe, Int.reduceToNat, g8]
            · simp -implicitDefEqProofs only [go_sem, ↓reduceIte, Nat.reduceEqDiff, Nat.reduceLT, Nat.reduceLeDiff, Nat.reduceAdd, Nat.reduceMul, Nat.reduceSub, reduceCtorEq, Nat.reduceMod, Nat.reduceBEq, Int.reduceBEq, Int.reduceBNe, Int.reduceToNat, g9]
            · simp -implicitDefEqProofs only [go_sem, ↓reduceIte, Nat.reduceEqDiff, Nat.reduceLT, Nat.reduceLeDiff, Nat.reduceAdd, Nat.reduceMul, Nat.reduceSub, reduceCtorEq, Nat.reduceMod, Nat.reduceBEq, Int.reduceBEq, Int.reduceBNe, Int.reduceToNat]
            · simp -implicitDefEqProofs only [go_sem, ↓reduceIte, Nat.reduceEqDiff, Nat.reduceLT, Nat.reduceLeDiff, Nat.reduceAdd, Nat.reduceMul, Nat.reduceSub, reduceCtorEq, Nat.reduceMod, Nat.reduceBEq, Int.reduceBEq, Int.reduceBNe, Int.reduceToNat, g3]
            · simp -implicitDefEqProofs only [go_sem, ↓reduceIte, Nat.reduceEqDiff, Nat.reduceLT, Nat.reduceLeDiff, Nat.reduceAdd, Nat.reduceMul, Nat.reduceSub, reduceCtorEq, Nat.reduceMod, Nat.reduceBEq, Int.reduceBEq, Int.reduceBNe, Int.reduceToNat, h10]
              omega
    · have hcc : ¬ (k : Int) < L.length := by omega
      simp -implicitDefEqProofs only [go_sem, ↓reduceIte, Nat.reduceEqDiff, Nat.reduceLT, Nat.reduceLeDiff, Nat.reduceAdd, Nat.reduceMul, Nat.reduceSub, reduceCtorEq, Nat.reduceMod, Nat.reduceBEq, Int.reduceBEq, Int.reduceBNe, Int.reduceToNat, hcc, h9, h10]
      refine hQ _ _ _ ?_
      simp -implicitDefEqProofs only [go_sem, ↓reduceIte, Nat.reduceEqDiff, Nat.reduceLT, Nat.reduceLeDiff, Nat.reduceAdd, Nat.reduceMul, Nat.reduceSub, reduceCtorEq, Nat.reduceMod, Nat.reduceBEq, Int.reduceBEq, Int.reduceBNe, Int.reduceToNat]
      rw [List.drop_of_length_le (by omega), shortF] at hr
      rw [hr] at hK
      exact ⟨S', fun _ _ h => h, hK⟩
end Go.Proofs.Ytmedhhjbknnfkaa.V
