/- Rows: slices put together. -/
import Derived.Test.YtjdfajibflodbaaRE
set_option linter.unusedVariables false
set_option linter.unusedSimpArgs false
namespace Go.Proofs.Ytjdfajibflodbaa.V
open Go Go.VL

theorem cloneE_spec (l : List Ent) (hd : l.length ≤ 3518437208883) (S : Store) : PRet Try.prog 36 [.sl .no 3 (encL l)] S (.sl .tail 3 (encL l)) := by
  intro K hK
  refine pcalls_of (C := C) (fun d => d == 2) (fun _ => false) Try.func36 rfl rfl (by simp [Try.f36]) ?_
  simp -implicitDefEqProofs only [go_sem, ↓reduceIte, Nat.reduceEqDiff, Nat.reduceLT, Nat.reduceLeDiff, Nat.reduceAdd, Nat.reduceMul, Nat.reduceSub, reduceCtorEq, Nat.reduceMod, Nat.reduceBEq, Int.reduceBEq, Int.reduceBNe, Int.reduceToNat, Try.f36]
  intro b hb
  cases b
  · simp -implicitDefEqProofs only [go_sem, ↓reduceIte, Nat.reduceEqDiff, Nat.reduceLT, Nat.reduceLeDiff, Nat.reduceAdd, Nat.reduceMul, Nat.reduceSub, reduceCtorEq, Nat.reduceMod, Nat.reduceBEq, Int.reduceBEq, Int.reduceBNe, Int.reduceToNat]
    have h1 : l.length * 40 ≤ 140737488355328 ∧ l.length ≤ 140737488355328 := by omega
    simp -implicitDefEqProofs only [go_sem, ↓reduceIte, Nat.reduceEqDiff, Nat.reduceLT, Nat.reduceLeDiff, Nat.reduceAdd, Nat.reduceMul, Nat.reduceSub, reduceCtorEq, Nat.reduceMod, Nat.reduceBEq, Int.reduceBEq, Int.reduceBNe, Int.reduceToNat, h1]
    exact ⟨S, fun _ _ h => h, hK⟩
  · have := hb rfl
    simp -implicitDefEqProofs only [go_sem, ↓reduceIte, Nat.reduceEqDiff, Nat.reduceLT, Nat.reduceLeDiff, Nat.reduceAdd, Nat.reduceMul, Nat.reduceSub, reduceCtorEq, Nat.reduceMod, Nat.reduceBEq, Int.reduceBEq, Int.reduceBNe, Int.reduceToNat]
    rw [this] at hK
    exact ⟨S, fun _ _ h => h, hK⟩

def encLL (L : List (List Ent)) : List (List PV) := L.map fun l => [.sl .no 3 (encL l)]
@[go_sem] theorem len_encLL (L : List (List Ent)) : (encLL L).length = L.length := by simp [encLL]
theorem getD_encLL {L : List (List Ent)} {k : Nat} {l : List Ent} (h : L[k]? = some l) : (encLL L).getD k [] = [.sl .no 3 (encL l)] := by
  simp [encLL, List.getD_eq_getElem?_getD, h]
def lens : List (List Ent) → Nat
  | [] => 0
  | l :: L => l.length + lens L
theorem lens_app : ∀ (A B : List (List Ent)), lens (A ++ B) = lens A + lens B
  | [], B => by simp [lens]
  | a :: A, B => by simp only [List.cons_append, lens, lens_app A B]; omega
theorem lens_take (L : List (List Ent)) (k : Nat) {l : List Ent} (h : L[k]? = some l) : lens (L.take (k + 1)) = lens (L.take k) + l.length := by
  rw [List.take_add_one, h, lens_app]
  simp [lens]
theorem lens_le (L : List (List Ent)) (k : Nat) : lens (L.take k) ≤ lens L := by
  conv => rhs; rw [← List.take_append_drop k L, lens_app]
  omega
theorem lens_flat : ∀ (L : List (List Ent)), L.flatten.length = lens L
  | [] => rfl
  | l :: L => by simp only [List.flatten_cons, List.length_append, lens, lens_flat L]
theorem flat_take (L : List (List Ent)) (k : Nat) {l : List Ent} (h : L[k]? = some l) : (L.take (k + 1)).flatten = (L.take k).flatten ++ l := by
  rw [List.take_add_one, h]
  simp
theorem encL_app (a b : List Ent) : encL (a ++ b) = encL a ++ encL b := by simp [encL]

set_option maxHeartbeats 1000000 in
theorem concat_spec (L : List (List Ent)) (hL : L.length ≤ 1000) (hs : lens L ≤ 3518437208883) (S : Store) : PRet Try.prog 42 [.sl .no 1 (encLL L)] S (.sl .tail 3 (encL L.flatten)) := by
  intro K hK
  refine pcalls_of (C := C) (fun d => d == 24 || d == 6 || d == 31 || d == 35 || d == 2) (fun _ => false) Try.func42 rfl rfl (by simp [Try.f42]) ?_
  simp -implicitDefEqProofs only [go_sem, ↓reduceIte, Nat.reduceEqDiff, Nat.reduceLT, Nat.reduceLeDiff, Nat.reduceAdd, Nat.reduceMul, Nat.reduceSub, reduceCtorEq, Nat.reduceMod, Nat.reduceBEq, Int.reduceBEq, Int.reduceBNe, Int.reduceToNat, Try.f42]
  refine vwp_loop (fun e S' => S' = S ∧ ∃ k : Nat, k ≤ L.length ∧ e 0 = .sl .no 1 (encLL L) ∧ e 9 = .sl .no 1 (encLL L) ∧ e 10 = .int .i64 L.length ∧ e 11 = .int .i64 k ∧ e 3 = .int .i64 (lens (L.take k))) (fun e _ => match e 11 with | .int _ k => L.length - k.toNat | _ => 0) ?_ ?_
  · exact ⟨rfl, 0, Nat.zero_le _, rfl, rfl, rfl, rfl, rfl⟩
  · rintro e S' ⟨rfl, k, hk, h0, h9, h10, h11, h3⟩
    have hle := lens_le L k
    simp -implicitDefEqProofs only [go_sem, ↓reduceIte, Nat.reduceEqDiff, Nat.reduceLT, Nat.reduceLeDiff, Nat.reduceAdd, Nat.reduceMul, Nat.reduceSub, reduceCtorEq, Nat.reduceMod, Nat.reduceBEq, Int.reduceBEq, Int.reduceBNe, Int.reduceToNat, h9, h10, h11]
    by_cases hlt : k < L.length
    · obtain ⟨x, hx⟩ : ∃ x, L[k]? = some x := ⟨_, List.getElem?_eq_getElem hlt⟩
      have hle2 := lens_le L (k + 1)
      rw [lens_take L k hx] at hle2
      have hin : (0 : Int) ≤ k ∧ (k : Int) < L.length := by omega
      have hw : IntKind.i64.wrap ((lens (L.take k) : Int) + x.length) = ((lens (L.take (k + 1)) : Nat) : Int) := by
        rw [lens_take L k hx, wrap64 (by omega) (by omega)]; omega
      have hk1 : IntKind.i64.wrap ((k : Int) + 1) = ((k + 1 : Nat) : Int) := wrap64 (by omega) (by omega)
      have hng : ¬ ((lens (L.take (k + 1)) : Nat) : Int) < 0 := by omega
      simp -implicitDefEqProofs only [go_sem, ↓reduceIte, Nat.reduceEqDiff, Nat.reduceLT, Nat.reduceLeDiff, Nat.reduceAdd, Nat.reduceMul, Nat.reduceSub, reduceCtorEq, Nat.reduceMod, Nat.reduceBEq, Int.reduceBEq, Int.reduceBNe, Int.reduceToNat, hin, h9, h10, h11, h3, getD_encLL hx, hw, hng, hk1]
      refine ⟨S', fun _ _ h => h, ⟨rfl, k + 1, hlt, ?_, ?_, ?_, ?_, ?_⟩, ?_⟩
      · simp -implicitDefEqProofs only [go_sem, ↓reduceIte, Nat.reduceEqDiff, Nat.reduceLT, Nat.reduceLeDiff, Nat.reduceAdd, Nat.reduceMul, Nat.reduceSub, reduceCtorEq, Nat.reduceMod, Nat.reduceBEq, Int.reduceBEq, Int.reduceBNe, Int.reduceToNat, h0]
      · simp -implicitDefEqProofs only [go_sem, ↓reduceIte, Nat.reduceEqDiff, Nat.reduceLT, Nat.reduceLeDiff, Nat.reduceAdd, Nat.reduceMul, Nat.reduceSub, reduceCtorEq, Nat.reduceMod, Nat.reduceBEq, Int.reduceBEq, Int.reduceBNe, Int.reduceToNat, h9]
      · simp -implicitDefEqProofs only [go_sem, ↓reduceIte, Nat.reduceEqDiff, Nat.reduceLT, Nat.reduceLeDiff, Nat.reduceAdd, Nat.reduceMul, Nat.reduceSub, reduceCtorEq, Nat.reduceMod, Nat.reduceBEq, Int.reduceBEq, Int.reduceBNe, Int.reduceToNat, h10]
      · simp -implicitDefEqProofs only [go_sem, ↓reduceIte, Nat.reduceEqDiff, Nat.reduceLT, Nat.reduceLeDiff, Nat.reduceAdd, Nat.reduceMul, Nat.reduceSub, reduceCtorEq, Nat.reduceMod, Nat.reduceBEq, Int.reduceBEq, Int.reduceBNe, Int.reduceToNat]
      · simp -implicitDefEqProofs only [go_sem, ↓reduceIte, Nat.reduceEqDiff, Nat.reduceLT, Nat.reduceLeDiff, Nat.reduceAdd, Nat.reduceMul, Nat.reduceSub, reduceCtorEq, Nat.reduceMod, Nat.reduceBEq, Int.reduceBEq, Int.reduceBNe, Int.reduceToNat]
      · simp -implicitDefEqProofs only [go_sem, ↓reduceIte, Nat.reduceEqDiff, Nat.reduceLT, Nat.reduceLeDiff, Nat.reduceAdd, Nat.reduceMul, Nat.reduceSub, reduceCtorEq, Nat.reduceMod, Nat.reduceBEq, Int.reduceBEq, Int.reduceBNe, Int.reduceToNat]
        omega
    · have hc : ¬ (k : Int) < L.length := by omega
      simp -implicitDefEqProofs only [go_sem, ↓reduceIte, Nat.reduceEqDiff, Nat.reduceLT, Nat.reduceLeDiff, Nat.reduceAdd, Nat.reduceMul, Nat.reduceSub, reduceCtorEq, Nat.reduceMod, Nat.reduceBEq, Int.reduceBEq, Int.reduceBNe, Int.reduceToNat, hc, h3]
      rw [List.take_of_length_le (by omega)]
      refine ⟨by decide, grow_spec (lens L) (by omega) _ _ ?_⟩
      simp -implicitDefEqProofs only [go_sem, ↓reduceIte, Nat.reduceEqDiff, Nat.reduceLT, Nat.reduceLeDiff, Nat.reduceAdd, Nat.reduceMul, Nat.reduceSub, reduceCtorEq, Nat.reduceMod, Nat.reduceBEq, Int.reduceBEq, Int.reduceBNe, Int.reduceToNat, h0]
      refine vwp_loop (fun e S2 => S2 = S' ∧ ∃ k : Nat, k ≤ L.length ∧ e 25 = .sl .no 1 (encLL L) ∧ e 26 = .int .i64 L.length ∧ e 27 = .int .i64 k ∧ e 6 = .sl .tail 3 (encL (L.take k).flatten)) (fun e _ => match e 27 with | .int _ k => L.length - k.toNat | _ => 0) ?_ ?_
      · exact ⟨rfl, 0, Nat.zero_le _, rfl, rfl, rfl, rfl⟩
      · rintro e S2 ⟨rfl, k, hk, h25, h26, h27, h6⟩
        have hle := lens_le L k
        simp -implicitDefEqProofs only [go_sem, ↓reduceIte, Nat.reduceEqDiff, Nat.reduceLT, Nat.reduceLeDiff, Nat.reduceAdd, Nat.reduceMul, Nat.reduceSub, reduceCtorEq, Nat.reduceMod, Nat.reduceBEq, Int.reduceBEq, Int.reduceBNe, Int.reduceToNat, h25, h26, h27]
        by_cases hlt : k < L.length
        · obtain ⟨x, hx⟩ : ∃ x, L[k]? = some x := ⟨_, List.getElem?_eq_getElem hlt⟩
          have hle2 := lens_le L (k + 1)
          rw [lens_take L k hx] at hle2
          have hin : (0 : Int) ≤ k ∧ (k : Int) < L.length := by omega
          have hk1 : IntKind.i64.wrap ((k : Int) + 1) = ((k + 1 : Nat) : Int) := wrap64 (by omega) (by omega)
          have hap : ((L.take k).flatten.length + x.length) * 40 ≤ 140737488355328 ∧ (L.take k).flatten.length + x.length ≤ 140737488355328 := by
            rw [lens_flat]; omega
          simp -implicitDefEqProofs only [go_sem, ↓reduceIte, Nat.reduceEqDiff, Nat.reduceLT, Nat.reduceLeDiff, Nat.reduceAdd, Nat.reduceMul, Nat.reduceSub, reduceCtorEq, Nat.reduceMod, Nat.reduceBEq, Int.reduceBEq, Int.reduceBNe, Int.reduceToNat, hin, h25, h26, h27, h6, getD_encLL hx, hap, hk1]
          refine ⟨S2, fun _ _ h => h, ⟨rfl, k + 1, hlt, ?_, ?_, ?_, ?_⟩, ?_⟩
          · simp -implicitDefEqProofs only [go_sem, ↓reduceIte, Nat.reduceEqDiff, Nat.reduceLT, Nat.reduceLeDiff, Nat.reduceAdd, Nat.reduceMul, Nat.reduceSub, reduceCtorEq, Nat.reduceMod, Nat.reduceBEq, Int.reduceBEq, Int.reduceBNe, Int.reduceToNat, h25]
          · simp -implicitDefEqProofs only [go_sem, ↓reduceIte, Nat.reduceEqDiff, Nat.reduceLT, Nat.reduceLeDiff, Nat.reduceAdd, Nat.reduceMul, Nat.reduceSub, reduceCtorEq, Nat.reduceMod, Nat.reduceBEq, Int.reduceBEq, Int.reduceBNe, Int.reduceToNat, h26]
          · simp -implicitDefEqProofs only [go_sem, ↓reduceIte, Nat.reduceEqDiff, Nat.reduceLT, Nat.reduceLeDiff, Nat.reduceAdd, Nat.reduceMul, Nat.reduceSub, reduceCtorEq, Nat.reduceMod, Nat.reduceBEq, Int.reduceBEq, Int.reduceBNe, Int.reduceToNat]
          · simp -implicitDefEqProofs only [go_sem, ↓reduceIte, Nat.reduceEqDiff, Nat.reduceLT, Nat.reduceLeDiff, Nat.reduceAdd, Nat.reduceMul, Nat.reduceSub, reduceCtorEq, Nat.reduceMod, Nat.reduceBEq, Int.reduceBEq, Int.reduceBNe, Int.reduceToNat]
            rw [flat_take L k hx, encL_app]
          · simp -implicitDefEqProofs only [go_sem, ↓reduceIte, Nat.reduceEqDiff, Nat.reduceLT, Nat.reduceLeDiff, Nat.reduceAdd, Nat.reduceMul, Nat.reduceSub, reduceCtorEq, Nat.reduceMod, Nat.reduceBEq, Int.reduceBEq, Int.reduceBNe, Int.reduceToNat]
            omega
        · have hc : ¬ (k : Int) < L.length := by omega
          simp -implicitDefEqProofs only [go_sem, ↓reduceIte, Nat.reduceEqDiff, Nat.reduceLT, Nat.reduceLeDiff, Nat.reduceAdd, Nat.reduceMul, Nat.reduceSub, reduceCtorEq, Nat.reduceMod, Nat.reduceBEq, Int.reduceBEq, Int.reduceBNe, Int.reduceToNat, hc, h6]
          rw [List.take_of_length_le (by omega)]
          exact ⟨S2, fun _ _ h => h, hK⟩
end Go.Proofs.Ytjdfajibflodbaa.V
