/- Rows: is it light, the term at an index, who is fresh, what is cut. -/
import Derived.Test.YtjdfajibflodbaaRF
set_option linter.unusedVariables false
set_option linter.unusedSimpArgs false
namespace Go.Proofs.Ytjdfajibflodbaa.V
open Go Go.VL

def acc (n : Nat) : Nat → List Ent → Nat
  | 0, _ => n
  | _ + 1, [] => n
  | c + 1, e :: l => if n ≤ 32768 then acc (n + min e.d.length 32768) c l else n
def lightF : Nat → List (List Ent) → Bool
  | n, [] => decide (n ≤ 32768)
  | n, l :: L => if l.length > 200 then false else lightF (acc n 201 l) L

theorem light_len : ∀ (L : List (List Ent)) (n : Nat), lightF n L = true → ∀ l ∈ L, l.length ≤ 200
  | [], _, _, l, h => by simp at h
  | l0 :: L, n, h, l, hm => by
    unfold lightF at h
    split at h
    · cases h
    · rcases List.mem_cons.1 hm with rfl | hm
      · omega
      · exact light_len L _ h l hm

theorem light_spec (L : List (List Ent)) (hL : L.length ≤ 1000) (S : Store) : PRet Try.prog 11 [.sl .no 1 (encLL L)] S (.bool (lightF 0 L)) := by
  intro K hK
  refine pcalls_of (C := C) (fun _ => false) (fun _ => false) Try.func11 rfl rfl (by simp [Try.f11]) ?_
  simp -implicitDefEqProofs only [go_sem, ↓reduceIte, Nat.reduceEqDiff, Nat.reduceLT, Nat.reduceLeDiff, Nat.reduceAdd, Nat.reduceMul, Nat.reduceSub, reduceCtorEq, Nat.reduceMod, Nat.reduceBEq, Int.reduceBEq, Int.reduceBNe, Int.reduceToNat, Try.f11]
  refine vwp_loop (fun e S' => S' = S ∧ ∃ k n : Nat, k ≤ L.length ∧ n ≤ 65536 ∧ e 7 = .sl .no 1 (encLL L) ∧ e 8 = .int .i64 L.length ∧ e 9 = .int .i64 k ∧ e 3 = .int .i64 n ∧ lightF 0 L = lightF n (L.drop k)) (fun e _ => match e 9 with | .int _ k => L.length - k.toNat | _ => 0) ?_ ?_
  · exact ⟨rfl, 0, 0, Nat.zero_le _, Nat.zero_le _, rfl, rfl, rfl, rfl, rfl⟩
  · rintro e S' ⟨rfl, k, n, hk, hn, h7, h8, h9, h3, hr⟩
    simp -implicitDefEqProofs only [go_sem, ↓reduceIte, Nat.reduceEqDiff, Nat.reduceLT, Nat.reduceLeDiff, Nat.reduceAdd, Nat.reduceMul, Nat.reduceSub, reduceCtorEq, Nat.reduceMod, Nat.reduceBEq, Int.reduceBEq, Int.reduceBNe, Int.reduceToNat, h7, h8, h9]
    by_cases hlt : k < L.length
    · obtain ⟨x, hx⟩ : ∃ x, L[k]? = some x := ⟨_, List.getElem?_eq_getElem hlt⟩
      have hd : L.drop k = x :: L.drop (k + 1) := by
        rw [List.drop_eq_getElem_cons hlt]
        rw [List.getElem?_eq_getElem hlt] at hx
        injection hx with hx
        rw [hx]
      rw [hd] at hr
      have hin : (0 : Int) ≤ k ∧ (k : Int) < L.length := by omega
      simp -implicitDefEqProofs only [go_sem, ↓reduceIte, Nat.reduceEqDiff, Nat.reduceLT, Nat.reduceLeDiff, Nat.reduceAdd, Nat.reduceMul, Nat.reduceSub, reduceCtorEq, Nat.reduceMod, Nat.reduceBEq, Int.reduceBEq, Int.reduceBNe, Int.reduceToNat, hin, h7, h8, h9, getD_encLL hx]
      refine vwp_loop (fun e S2 => S2 = S' ∧ ∃ i n2 : Nat, i ≤ 201 ∧ i ≤ x.length ∧ n2 ≤ 65536 ∧ e 7 = .sl .no 1 (encLL L) ∧ e 8 = .int .i64 L.length ∧ e 9 = .int .i64 k ∧ e 5 = .sl .no 3 (encL x) ∧ e 6 = .int .i64 i ∧ e 3 = .int .i64 n2 ∧ acc n 201 x = acc n2 (201 - i) (x.drop i)) (fun e _ => match e 6 with | .int _ k => x.length - k.toNat | _ => 0) ?_ ?_
      · refine ⟨rfl, 0, n, by omega, Nat.zero_le _, hn, ?_, ?_, ?_, ?_, ?_, ?_, ?_⟩
        · simp -implicitDefEqProofs only [go_sem, ↓reduceIte, Nat.reduceEqDiff, Nat.reduceLT, Nat.reduceLeDiff, Nat.reduceAdd, Nat.reduceMul, Nat.reduceSub, reduceCtorEq, Nat.reduceMod, Nat.reduceBEq, Int.reduceBEq, Int.reduceBNe, Int.reduceToNat, h7]
        · simp -implicitDefEqProofs only [go_sem, ↓reduceIte, Nat.reduceEqDiff, Nat.reduceLT, Nat.reduceLeDiff, Nat.reduceAdd, Nat.reduceMul, Nat.reduceSub, reduceCtorEq, Nat.reduceMod, Nat.reduceBEq, Int.reduceBEq, Int.reduceBNe, Int.reduceToNat, h8]
        · simp -implicitDefEqProofs only [go_sem, ↓reduceIte, Nat.reduceEqDiff, Nat.reduceLT, Nat.reduceLeDiff, Nat.reduceAdd, Nat.reduceMul, Nat.reduceSub, reduceCtorEq, Nat.reduceMod, Nat.reduceBEq, Int.reduceBEq, Int.reduceBNe, Int.reduceToNat, h9]
        · simp -implicitDefEqProofs only [go_sem, ↓reduceIte, Nat.reduceEqDiff, Nat.reduceLT, Nat.reduceLeDiff, Nat.reduceAdd, Nat.reduceMul, Nat.reduceSub, reduceCtorEq, Nat.reduceMod, Nat.reduceBEq, Int.reduceBEq, Int.reduceBNe, Int.reduceToNat]
        · rfl
        · simp -implicitDefEqProofs only [go_sem, ↓reduceIte, Nat.reduceEqDiff, Nat.reduceLT, Nat.reduceLeDiff, Nat.reduceAdd, Nat.reduceMul, Nat.reduceSub, reduceCtorEq, Nat.reduceMod, Nat.reduceBEq, Int.reduceBEq, Int.reduceBNe, Int.reduceToNat, h3]
        · rfl
      · rintro e S2 ⟨rfl, i, n2, hi, hix, hn2, h7, h8, h9, h5, h6, h3, ha⟩
        have hk1 : IntKind.i64.wrap ((k : Int) + 1) = ((k + 1 : Nat) : Int) := wrap64 (by omega) (by omega)
        by_cases c1 : i < x.length
        · by_cases c2 : i ≤ 200
          · by_cases c3 : n2 ≤ 32768
            · have d1 : (i : Int) < x.length := by omega
              have d2 : (i : Int) ≤ 200 := by omega
              have d3 : (n2 : Int) ≤ 32768 := by omega
              obtain ⟨y, hy⟩ : ∃ y, x[i]? = some y := ⟨_, List.getElem?_eq_getElem c1⟩
              have hdy : x.drop i = y :: x.drop (i + 1) := by
                rw [List.drop_eq_getElem_cons c1]
                rw [List.getElem?_eq_getElem c1] at hy
                injection hy with hy
                rw [hy]
              have hin2 : (0 : Int) ≤ i ∧ (i : Int) < x.length := by omega
              have hmn : (if (32768 : Int) < (y.d.length : Int) then (32768 : Int) else (y.d.length : Int)) = ((min y.d.length 32768 : Nat) : Int) := by
                split <;> omega
              have hw : IntKind.i64.wrap ((n2 : Int) + ((min y.d.length 32768 : Nat) : Int)) = ((n2 + min y.d.length 32768 : Nat) : Int) := by
                rw [wrap64 (by omega) (by omega)]; omega
              have hi1 : IntKind.i64.wrap ((i : Int) + 1) = ((i + 1 : Nat) : Int) := wrap64 (by omega) (by omega)
              simp -implicitDefEqProofs only [go_sem, ↓reduceIte, Nat.reduceEqDiff, Nat.reduceLT, Nat.reduceLeDiff, Nat.reduceAdd, Nat.reduceMul, Nat.reduceSub, reduceCtorEq, Nat.reduceMod, Nat.reduceBEq, Int.reduceBEq, Int.reduceBNe, Int.reduceToNat, h5, h6, h3, d1, d2, d3, hin2, getD_encL hy, encE, hmn, hw, hi1]
              refine ⟨S2, fun _ _ h => h, ⟨rfl, i + 1, n2 + min y.d.length 32768, by omega, c1, by omega, ?_, ?_, ?_, ?_, ?_, ?_, ?_⟩, ?_⟩
              · simp -implicitDefEqProofs only [go_sem, ↓reduceIte, Nat.reduceEqDiff, Nat.reduceLT, Nat.reduceLeDiff, Nat.reduceAdd, Nat.reduceMul, Nat.reduceSub, reduceCtorEq, Nat.reduceMod, Nat.reduceBEq, Int.reduceBEq, Int.reduceBNe, Int.reduceToNat, h7]
              · simp -implicitDefEqProofs only [go_sem, ↓reduceIte, Nat.reduceEqDiff, Nat.reduceLT, Nat.reduceLeDiff, Nat.reduceAdd, Nat.reduceMul, Nat.reduceSub, reduceCtorEq, Nat.reduceMod, Nat.reduceBEq, Int.reduceBEq, Int.reduceBNe, Int.reduceToNat, h8]
              · simp -implicitDefEqProofs only [go_sem, ↓reduceIte, Nat.reduceEqDiff, Nat.reduceLT, Nat.reduceLeDiff, Nat.reduceAdd, Nat.reduceMul, Nat.reduceSub, reduceCtorEq, Nat.reduceMod, Nat.reduceBEq, Int.reduceBEq, Int.reduceBNe, Int.reduceToNat, h9]
              · simp -implicitDefEqProofs only [go_sem, ↓reduceIte, Nat.reduceEqDiff, Nat.reduceLT, Nat.reduceLeDiff, Nat.reduceAdd, Nat.reduceMul, Nat.reduceSub, reduceCtorEq, Nat.reduceMod, Nat.reduceBEq, Int.reduceBEq, Int.reduceBNe, Int.reduceToNat, h5]
              · simp -implicitDefEqProofs only [go_sem, ↓reduceIte, Nat.reduceEqDiff, Nat.reduceLT, Nat.reduceLeDiff, Nat.reduceAdd, Nat.reduceMul, Nat.reduceSub, reduceCtorEq, Nat.reduceMod, Nat.reduceBEq, Int.reduceBEq, Int.reduceBNe, Int.reduceToNat]
              · simp -implicitDefEqProofs only [go_sem, ↓reduceIte, Nat.reduceEqDiff, Nat.reduceLT, Nat.reduceLeDiff, Nat.reduceAdd, Nat.reduceMul, Nat.reduceSub, reduceCtorEq, Nat.reduceMod, Nat.reduceBEq, Int.reduceBEq, Int.reduceBNe, Int.reduceToNat]
              · rw [ha, hdy, show 201 - i = (201 - (i + 1)) + 1 by omega]
                simp only [acc]
                rw [if_pos c3]
              · simp -implicitDefEqProofs only [go_sem, ↓reduceIte, Nat.reduceEqDiff, Nat.reduceLT, Nat.reduceLeDiff, Nat.reduceAdd, Nat.reduceMul, Nat.reduceSub, reduceCtorEq, Nat.reduceMod, Nat.reduceBEq, Int.reduceBEq, Int.reduceBNe, Int.reduceToNat, h6]
                omega
            · have d1 : (i : Int) < x.length := by omega
              have d2 : (i : Int) ≤ 200 := by omega
              have d3 : ¬ (n2 : Int) ≤ 32768 := by omega
              have he : acc n 201 x = n2 := by
                rw [ha, List.drop_eq_getElem_cons c1, show 201 - i = (201 - (i + 1)) + 1 by omega]
                simp only [acc]
                rw [if_neg c3]
              simp -implicitDefEqProofs only [go_sem, ↓reduceIte, Nat.reduceEqDiff, Nat.reduceLT, Nat.reduceLeDiff, Nat.reduceAdd, Nat.reduceMul, Nat.reduceSub, reduceCtorEq, Nat.reduceMod, Nat.reduceBEq, Int.reduceBEq, Int.reduceBNe, Int.reduceToNat, h5, h6, h3, d1, d2, d3]
              by_cases c4 : 200 < x.length
              · have d4 : (200 : Int) < x.length := by omega
                simp -implicitDefEqProofs only [go_sem, ↓reduceIte, Nat.reduceEqDiff, Nat.reduceLT, Nat.reduceLeDiff, Nat.reduceAdd, Nat.reduceMul, Nat.reduceSub, reduceCtorEq, Nat.reduceMod, Nat.reduceBEq, Int.reduceBEq, Int.reduceBNe, Int.reduceToNat, h5, d4]
                rw [hr] at hK
                simp only [lightF] at hK
                rw [if_pos (by omega)] at hK
                exact ⟨S2, fun _ _ h => h, hK⟩
              · have d4 : ¬ (200 : Int) < x.length := by omega
                simp -implicitDefEqProofs only [go_sem, ↓reduceIte, Nat.reduceEqDiff, Nat.reduceLT, Nat.reduceLeDiff, Nat.reduceAdd, Nat.reduceMul, Nat.reduceSub, reduceCtorEq, Nat.reduceMod, Nat.reduceBEq, Int.reduceBEq, Int.reduceBNe, Int.reduceToNat, h5, h9, d4, hk1]
                refine ⟨S2, fun _ _ h => h, ⟨rfl, k + 1, n2, hlt, hn2, ?_, ?_, ?_, ?_, ?_⟩, ?_⟩
                · simp -implicitDefEqProofs only [go_sem, ↓reduceIte, Nat.reduceEqDiff, Nat.reduceLT, Nat.reduceLeDiff, Nat.reduceAdd, Nat.reduceMul, Nat.reduceSub, reduceCtorEq, Nat.reduceMod, Nat.reduceBEq, Int.reduceBEq, Int.reduceBNe, Int.reduceToNat, h7]
                · simp -implicitDefEqProofs only [go_sem, ↓reduceIte, Nat.reduceEqDiff, Nat.reduceLT, Nat.reduceLeDiff, Nat.reduceAdd, Nat.reduceMul, Nat.reduceSub, reduceCtorEq, Nat.reduceMod, Nat.reduceBEq, Int.reduceBEq, Int.reduceBNe, Int.reduceToNat, h8]
                · simp -implicitDefEqProofs only [go_sem, ↓reduceIte, Nat.reduceEqDiff, Nat.reduceLT, Nat.reduceLeDiff, Nat.reduceAdd, Nat.reduceMul, Nat.reduceSub, reduceCtorEq, Nat.reduceMod, Nat.reduceBEq, Int.reduceBEq, Int.reduceBNe, Int.reduceToNat]
                · simp -implicitDefEqProofs only [go_sem, ↓reduceIte, Nat.reduceEqDiff, Nat.reduceLT, Nat.reduceLeDiff, Nat.reduceAdd, Nat.reduceMul, Nat.reduceSub, reduceCtorEq, Nat.reduceMod, Nat.reduceBEq, Int.reduceBEq, Int.reduceBNe, Int.reduceToNat, h3]
                · rw [hr]
                  simp only [lightF]
                  rw [if_neg (by omega), he]
                · simp -implicitDefEqProofs only [go_sem, ↓reduceIte, Nat.reduceEqDiff, Nat.reduceLT, Nat.reduceLeDiff, Nat.reduceAdd, Nat.reduceMul, Nat.reduceSub, reduceCtorEq, Nat.reduceMod, Nat.reduceBEq, Int.reduceBEq, Int.reduceBNe, Int.reduceToNat]
                  omega
          · have d1 : (i : Int) < x.length := by omega
            have d2 : ¬ (i : Int) ≤ 200 := by omega
            have he : acc n 201 x = n2 := by
              rw [ha, show 201 - i = 0 by omega]
              rfl
            simp -implicitDefEqProofs only [go_sem, ↓reduceIte, Nat.reduceEqDiff, Nat.reduceLT, Nat.reduceLeDiff, Nat.reduceAdd, Nat.reduceMul, Nat.reduceSub, reduceCtorEq, Nat.reduceMod, Nat.reduceBEq, Int.reduceBEq, Int.reduceBNe, Int.reduceToNat, h5, h6, h3, d1, d2]
            by_cases c4 : 200 < x.length
            · have d4 : (200 : Int) < x.length := by omega
              simp -implicitDefEqProofs only [go_sem, ↓reduceIte, Nat.reduceEqDiff, Nat.reduceLT, Nat.reduceLeDiff, Nat.reduceAdd, Nat.reduceMul, Nat.reduceSub, reduceCtorEq, Nat.reduceMod, Nat.reduceBEq, Int.reduceBEq, Int.reduceBNe, Int.reduceToNat, h5, d4]
              rw [hr] at hK
              simp only [lightF] at hK
              rw [if_pos (by omega)] at hK
              exact ⟨S2, fun _ _ h => h, hK⟩
            · have d4 : ¬ (200 : Int) < x.length := by omega
              simp -implicitDefEqProofs only [go_sem, ↓reduceIte, Nat.reduceEqDiff, Nat.reduceLT, Nat.reduceLeDiff, Nat.reduceAdd, Nat.reduceMul, Nat.reduceSub, reduceCtorEq, Nat.reduceMod, Nat.reduceBEq, Int.reduceBEq, Int.reduceBNe, Int.reduceToNat, h5, h9, d4, hk1]
              refine ⟨S2, fun _ _ h => h, ⟨rfl, k + 1, n2, hlt, hn2, ?_, ?_, ?_, ?_, ?_⟩, ?_⟩
              · simp -implicitDefEqProofs only [go_sem, ↓reduceIte, Nat.reduceEqDiff, Nat.reduceLT, Nat.reduceLeDiff, Nat.reduceAdd, Nat.reduceMul, Nat.reduceSub, reduceCtorEq, Nat.reduceMod, Nat.reduceBEq, Int.reduceBEq, Int.reduceBNe, Int.reduceToNat, h7]
              · simp -implicitDefEqProofs only [go_sem, ↓reduceIte, Nat.reduceEqDiff, Nat.reduceLT, Nat.reduceLeDiff, Nat.reduceAdd, Nat.reduceMul, Nat.reduceSub, reduceCtorEq, Nat.reduceMod, Nat.reduceBEq, Int.reduceBEq, Int.reduceBNe, Int.reduceToNat, h8]
              · simp -implicitDefEqProofs only [go_sem, ↓reduceIte, Nat.reduceEqDiff, Nat.reduceLT, Nat.reduceLeDiff, Nat.reduceAdd, Nat.reduceMul, Nat.reduceSub, reduceCtorEq, Nat.reduceMod, Nat.reduceBEq, Int.reduceBEq, Int.reduceBNe, Int.reduceToNat]
              · simp -implicitDefEqProofs only [go_sem, ↓reduceIte, Nat.reduceEqDiff, Nat.reduceLT, Nat.reduceLeDiff, Nat.reduceAdd, Nat.reduceMul, Nat.reduceSub, reduceCtorEq, Nat.reduceMod, Nat.reduceBEq, Int.reduceBEq, Int.reduceBNe, Int.reduceToNat, h3]
              · rw [hr]
                simp only [lightF]
                rw [if_neg (by omega), he]
              · simp -implicitDefEqProofs only [go_sem, ↓reduceIte, Nat.reduceEqDiff, Nat.reduceLT, Nat.reduceLeDiff, Nat.reduceAdd, Nat.reduceMul, Nat.reduceSub, reduceCtorEq, Nat.reduceMod, Nat.reduceBEq, Int.reduceBEq, Int.reduceBNe, Int.reduceToNat]
                omega
        · have d1 : ¬ (i : Int) < x.length := by omega
          have he : acc n 201 x = n2 := by
            rw [ha, List.drop_of_length_le (by omega)]
            cases 201 - i <;> rfl
          simp -implicitDefEqProofs only [go_sem, ↓reduceIte, Nat.reduceEqDiff, Nat.reduceLT, Nat.reduceLeDiff, Nat.reduceAdd, Nat.reduceMul, Nat.reduceSub, reduceCtorEq, Nat.reduceMod, Nat.reduceBEq, Int.reduceBEq, Int.reduceBNe, Int.reduceToNat, h5, h6, h3, d1]
          by_cases c4 : 200 < x.length
          · have d4 : (200 : Int) < x.length := by omega
            simp -implicitDefEqProofs only [go_sem, ↓reduceIte, Nat.reduceEqDiff, Nat.reduceLT, Nat.reduceLeDiff, Nat.reduceAdd, Nat.reduceMul, Nat.reduceSub, reduceCtorEq, Nat.reduceMod, Nat.reduceBEq, Int.reduceBEq, Int.reduceBNe, Int.reduceToNat, h5, d4]
            rw [hr] at hK
            simp only [lightF] at hK
            rw [if_pos (by omega)] at hK
            exact ⟨S2, fun _ _ h => h, hK⟩
          · have d4 : ¬ (200 : Int) < x.length := by omega
            simp -implicitDefEqProofs only [go_sem, ↓reduceIte, Nat.reduceEqDiff, Nat.reduceLT, Nat.reduceLeDiff, Nat.reduceAdd, Nat.reduceMul, Nat.reduceSub, reduceCtorEq, Nat.reduceMod, Nat.reduceBEq, Int.reduceBEq, Int.reduceBNe, Int.reduceToNat, h5, h9, d4, hk1]
            refine ⟨S2, fun _ _ h => h, ⟨rfl, k + 1, n2, hlt, hn2, ?_, ?_, ?_, ?_, ?_⟩, ?_⟩
            · simp -implicitDefEqProofs only [go_sem, ↓reduceIte, Nat.reduceEqDiff, Nat.reduceLT, Nat.reduceLeDiff, Nat.reduceAdd, Nat.reduceMul, Nat.reduceSub, reduceCtorEq, Nat.reduceMod, Nat.reduceBEq, Int.reduceBEq, Int.reduceBNe, Int.reduceToNat, h7]
            · simp -implicitDefEqProofs only [go_sem, ↓reduceIte, Nat.reduceEqDiff, Nat.reduceLT, Nat.reduceLeDiff, Nat.reduceAdd, Nat.reduceMul, Nat.reduceSub, reduceCtorEq, Nat.reduceMod, Nat.reduceBEq, Int.reduceBEq, Int.reduceBNe, Int.reduceToNat, h8]
            · simp -implicitDefEqProofs only [go_sem, ↓reduceIte, Nat.reduceEqDiff, Nat.reduceLT, Nat.reduceLeDiff, Nat.reduceAdd, Nat.reduceMul, Nat.reduceSub, reduceCtorEq, Nat.reduceMod, Nat.reduceBEq, Int.reduceBEq, Int.reduceBNe, Int.reduceToNat]
            · simp -implicitDefEqProofs only [go_sem, ↓reduceIte, Nat.reduceEqDiff, Nat.reduceLT, Nat.reduceLeDiff, Nat.reduceAdd, Nat.reduceMul, Nat.reduceSub, reduceCtorEq, Nat.reduceMod, Nat.reduceBEq, Int.reduceBEq, Int.reduceBNe, Int.reduceToNat, h3]
            · rw [hr]
              simp only [lightF]
              rw [if_neg (by omega), he]
            · simp -implicitDefEqProofs only [go_sem, ↓reduceIte, Nat.reduceEqDiff, Nat.reduceLT, Nat.reduceLeDiff, Nat.reduceAdd, Nat.reduceMul, Nat.reduceSub, reduceCtorEq, Nat.reduceMod, Nat.reduceBEq, Int.reduceBEq, Int.reduceBNe, Int.reduceToNat]
              omega
    · have hc : ¬ (k : Int) < L.length := by omega
      simp -implicitDefEqProofs only [go_sem, ↓reduceIte, Nat.reduceEqDiff, Nat.reduceLT, Nat.reduceLeDiff, Nat.reduceAdd, Nat.reduceMul, Nat.reduceSub, reduceCtorEq, Nat.reduceMod, Nat.reduceBEq, Int.reduceBEq, Int.reduceBNe, Int.reduceToNat, hc, h3]
      rw [List.drop_of_length_le (by omega)] at hr
      rw [hr] at hK
      simp only [lightF] at hK
      have e1 : decide ((n : Int) ≤ 32768) = decide (n ≤ 32768) := by
        by_cases h : n ≤ 32768
        · simp [h]; omega
        · simp [h]; omega
      rw [e1]
      exact ⟨S', fun _ _ h => h, hK⟩
end Go.Proofs.Ytjdfajibflodbaa.V
