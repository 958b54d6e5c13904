/- Views: what a view tells of a map; the law of it. -/
import Derived.Test.YtdioedabjaaboaaGreatYI
set_option linter.unusedVariables false
set_option linter.unusedSimpArgs false
namespace Go.Proofs.YtdioedabjaaboaaGreat.V
open Go Go.VL

/-- What a view tells, or why not. -/
noncomputable def ofV (w : Wv) (P : List Pr) : List RV × Int := if vcheck w = 0 then (if fitsQ w P = true then (rowsOf w P, 0) else ([], 72)) else ([], vcheck w)
theorem ofV_perm {w : Wv} {P Q : List Pr} (h : P.Perm Q) : ofV w P = ofV w Q := by
  unfold ofV
  rw [fitsQ_perm h, rowsOf_perm h]
def encOf (r : List RV × Int) : PV := .tup [.sl .no 3 (encRVs r.1), .int .i64 r.2]
theorem ofV_pv (w : Wv) (P : List Pr) : (if vcheck w = 0 then (if fitsQ w P = true then PV.tup [.sl .no 3 (encRVs (rowsOf w P)), .int .i64 0] else .tup [.sl .no 3 [], .int .i64 72]) else .tup [.sl .no 3 [], .int .i64 (vcheck w)]) = encOf (ofV w P) := by
  unfold encOf ofV
  split
  · split <;> rfl
  · rfl
theorem rowsOf_len' (w : Wv) (L : List Pr) : (rowsOf w L).length ≤ L.length := by
  unfold rowsOf
  rw [List.length_map, len_sortB]
  exact groups_len w L
theorem rowsOf_keys' (w : Wv) (L : List Pr) : ∀ r ∈ rowsOf w L, r.keys.length ≤ L.length := by
  intro r hr
  unfold rowsOf at hr
  obtain ⟨g, _, rfl⟩ := List.mem_map.1 hr
  unfold rowOf
  dsimp only
  split
  · rw [len_sortB, List.length_map]; exact List.length_filter_le _ _
  · exact Nat.zero_le _
theorem ofV_len (w : Wv) (L : List Pr) : (ofV w L).1.length ≤ L.length ∧ ∀ r ∈ (ofV w L).1, r.keys.length ≤ L.length := by
  unfold ofV
  split
  · split
    · exact ⟨rowsOf_len' w L, rowsOf_keys' w L⟩
    · exact ⟨Nat.zero_le _, fun r hr => by cases hr⟩
  · exact ⟨Nat.zero_le _, fun r hr => by cases hr⟩
theorem ROf_pv (w : Wv) (hw : FitW w) (P : List Pr) (hP : P.length ≤ 1000000) (hf : FitK P) (hn : (P.map Prod.fst).Nodup) (S : Store) :
    PRet Tryz.prog 13 [.agg (encW w), .sl .no 3 (encOs (P.map kOf))] S (encOf (ofV w P)) := by
  rw [← ofV_pv]; exact ROf_spec w hw P hP hf hn S
theorem VOf_calls (w : Wv) (P : List Pr) (hP : P.length ≤ 1000000) (hf : FitK P) (hn : (P.map Prod.fst).Nodup) (S : Store) (K : PV → Store → Prop) (hK : ∀ S', Sub' S S' → K (encOf (ofV w P)) S') :
    PCalls Tryz.prog 11 [.agg (encW w), .sl .no 3 (encOs (P.map kOf))] S K := by
  rw [← ofV_pv] at hK
  refine pcalls_of (C := C) (fun _ => false) (fun _ => false) Tryz.func11 rfl rfl (by simp [Tryz.f11]) ?_
  unfold encW
  simp -implicitDefEqProofs only [go_sem, ↓reduceIte, Nat.reduceEqDiff, Nat.reduceLT, Nat.reduceLeDiff, Nat.reduceAdd, Nat.reduceMul, Nat.reduceSub, reduceCtorEq, Nat.reduceMod, Nat.reduceBEq, Int.reduceBEq, Int.reduceBNe, Int.reduceToNat, Tryz.f11]
  refine VCheck_spec w _ _ ?_
  by_cases h0 : vcheck w = 0
  · have d0 : (vcheck w != 0) = false := by rw [h0]; rfl
    rw [if_pos h0] at hK
    simp -implicitDefEqProofs only [go_sem, ↓reduceIte, Nat.reduceEqDiff, Nat.reduceLT, Nat.reduceLeDiff, Nat.reduceAdd, Nat.reduceMul, Nat.reduceSub, reduceCtorEq, Nat.reduceMod, Nat.reduceBEq, Int.reduceBEq, Int.reduceBNe, Int.reduceToNat, d0, Bool.false_eq_true]
    refine build_calls w P hP (fun p hp => (hf p hp).2) hn _ _ ?_
    intro S' gid kd ht
    unfold encT
    cases hq : fitsQ w P
    · rw [hq] at hK
      simp -implicitDefEqProofs only [go_sem, ↓reduceIte, Nat.reduceEqDiff, Nat.reduceLT, Nat.reduceLeDiff, Nat.reduceAdd, Nat.reduceMul, Nat.reduceSub, reduceCtorEq, Nat.reduceMod, Nat.reduceBEq, Int.reduceBEq, Int.reduceBNe, Int.reduceToNat, Bool.not_false]
      exact ⟨S', fun _ _ h => h, hK S' ht.old⟩
    · rw [hq] at hK
      simp -implicitDefEqProofs only [go_sem, ↓reduceIte, Nat.reduceEqDiff, Nat.reduceLT, Nat.reduceLeDiff, Nat.reduceAdd, Nat.reduceMul, Nat.reduceSub, reduceCtorEq, Nat.reduceMod, Nat.reduceBEq, Int.reduceBEq, Int.reduceBNe, Int.reduceToNat, Bool.not_true, Bool.false_eq_true]
      refine rows_spec ht.tab hP hf hn _ ?_
      simp -implicitDefEqProofs only [go_sem, ↓reduceIte, Nat.reduceEqDiff, Nat.reduceLT, Nat.reduceLeDiff, Nat.reduceAdd, Nat.reduceMul, Nat.reduceSub, reduceCtorEq, Nat.reduceMod, Nat.reduceBEq, Int.reduceBEq, Int.reduceBNe, Int.reduceToNat]
      exact ⟨S', fun _ _ h => h, hK S' ht.old⟩
  · have d0 : (vcheck w != 0) = true := by simp [h0]
    rw [if_neg h0] at hK
    simp -implicitDefEqProofs only [go_sem, ↓reduceIte, Nat.reduceEqDiff, Nat.reduceLT, Nat.reduceLeDiff, Nat.reduceAdd, Nat.reduceMul, Nat.reduceSub, reduceCtorEq, Nat.reduceMod, Nat.reduceBEq, Int.reduceBEq, Int.reduceBNe, Int.reduceToNat, d0]
    exact ⟨S, fun _ _ h => h, hK S fun _ _ h => h⟩
theorem SameR_spec (w : Wv) (P : List Pr) (hP : P.length ≤ 1000000) (S : Store) : PRet Tryz.prog 15 [.sl .no 3 (encRVs (ofV w P).1), .sl .no 3 (encRVs (ofV w P).1)] S (.bool true) :=
  Same_spec _ (Nat.le_trans (ofV_len w P).1 hP) (fun r hr => Nat.le_trans ((ofV_len w P).2 r hr) hP) S
theorem aw_calls (S : Store) (K : PV → Store → Prop) (hK : ∀ S', K (.bool true) S') : PCalls Tryz.prog 9 [] S K := vawake_calls S K fun S2 _ => hK S2
end Go.Proofs.YtdioedabjaaboaaGreat.V
