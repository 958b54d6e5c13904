/- Views: dead views; the law of views that no call made. -/
import Derived.Test.YtdioedabjaaboaaXU
set_option linter.unusedVariables false
set_option linter.unusedSimpArgs false
namespace Go.Proofs.Ytdioedabjaaboaa.V
open Go Go.VL

/-- Views that no call made. -/
def DeadV (S : Store) (v : PV) : Prop := v = .nilp ∨ ∃ id T, v = .ip [.sl .no 5 T, .bool false] id ∧ id = 0
theorem dead_dead {S : Store} {v : PV} (h : DeadV S v) : PRet Try.prog 25 [v] S (.bool true) := by
  intro K hK
  rcases h with rfl | ⟨_, T, rfl, rfl⟩
  · refine pcalls_of (C := C) (fun _ => false) (fun _ => false) Try.func25 rfl rfl (by simp [Try.f25]) ?_
    simp -implicitDefEqProofs only [go_sem, ↓reduceIte, Nat.reduceEqDiff, Nat.reduceLT, Nat.reduceLeDiff, Nat.reduceAdd, Nat.reduceMul, Nat.reduceSub, reduceCtorEq, Nat.reduceMod, Nat.reduceBEq, Int.reduceBEq, Int.reduceBNe, Int.reduceToNat, Try.f25]
    exact ⟨S, fun _ _ h => h, hK⟩
  · refine pcalls_of (C := C) (fun _ => false) (fun _ => false) Try.func25 rfl rfl (by simp [Try.f25]) ?_
    simp -implicitDefEqProofs only [go_sem, ↓reduceIte, Nat.reduceEqDiff, Nat.reduceLT, Nat.reduceLeDiff, Nat.reduceAdd, Nat.reduceMul, Nat.reduceSub, reduceCtorEq, Nat.reduceMod, Nat.reduceBEq, Int.reduceBEq, Int.reduceBNe, Int.reduceToNat, Try.f25]
    exact ⟨S, fun _ _ h => h, hK⟩
theorem fits_nosum {w : Wv} (hk : w.kind ≠ 3) (P : List Pr) : fitsQ w P = true := by
  rw [fitsQ_iff]
  intro g _
  have hz : ∀ p : Pr, numberF w p.2 = 0 := fun p => by unfold numberF; rw [if_neg hk]
  have h1 : ∀ Q : List Pr, sH w Q = 0 := fun Q => by
    unfold sH
    induction Q with
    | nil => rfl
    | cons p Q ih => rw [List.map_cons, List.sum_cons, ih, hz]; decide
  have h2 : ∀ Q : List Pr, sL w Q = 0 := fun Q => by
    unfold sL
    induction Q with
    | nil => rfl
    | cons p Q ih => rw [List.map_cons, List.sum_cons, ih, hz]; decide +kernel
  unfold sumOf
  rw [h1, h2]
  decide +kernel
theorem deadRows {S : Store} {v : PV} (h : DeadV S v) (n : ByteArray) : PRet Try.prog 13 [v, .str n] S (.tup [.sl .no 3 [], .int .i64 6]) := by
  intro K hK
  have hb : v.bare = v := by rcases h with rfl | ⟨_, T, rfl, rfl⟩ <;> rfl
  refine pcalls_of (C := C) (fun _ => false) (fun _ => false) Try.func13 rfl rfl (by simp [Try.f13]) ?_
  simp -implicitDefEqProofs only [go_sem, ↓reduceIte, Nat.reduceEqDiff, Nat.reduceLT, Nat.reduceLeDiff, Nat.reduceAdd, Nat.reduceMul, Nat.reduceSub, reduceCtorEq, Nat.reduceMod, Nat.reduceBEq, Int.reduceBEq, Int.reduceBNe, Int.reduceToNat, Try.f13, hb]
  refine dead_dead h _ ?_
  simp -implicitDefEqProofs only [go_sem, ↓reduceIte, Nat.reduceEqDiff, Nat.reduceLT, Nat.reduceLeDiff, Nat.reduceAdd, Nat.reduceMul, Nat.reduceSub, reduceCtorEq, Nat.reduceMod, Nat.reduceBEq, Int.reduceBEq, Int.reduceBNe, Int.reduceToNat]
  exact ⟨S, fun _ _ h => h, hK⟩
theorem deadAdd {S : Store} {v : PV} (h : DeadV S v) (w : Wv) (l : List KO) : PRet Try.prog 11 [v, .agg (encW w), .sl .no 3 (encOs l)] S (.int .i64 6) := by
  intro K hK
  have hb : v.bare = v := by rcases h with rfl | ⟨_, T, rfl, rfl⟩ <;> rfl
  unfold encW
  refine pcalls_of (C := C) (fun _ => false) (fun _ => false) Try.func11 rfl rfl (by simp [Try.f11]) ?_
  simp -implicitDefEqProofs only [go_sem, ↓reduceIte, Nat.reduceEqDiff, Nat.reduceLT, Nat.reduceLeDiff, Nat.reduceAdd, Nat.reduceMul, Nat.reduceSub, reduceCtorEq, Nat.reduceMod, Nat.reduceBEq, Int.reduceBEq, Int.reduceBNe, Int.reduceToNat, Try.f11, hb]
  refine dead_dead h _ ?_
  simp -implicitDefEqProofs only [go_sem, ↓reduceIte, Nat.reduceEqDiff, Nat.reduceLT, Nat.reduceLeDiff, Nat.reduceAdd, Nat.reduceMul, Nat.reduceSub, reduceCtorEq, Nat.reduceMod, Nat.reduceBEq, Int.reduceBEq, Int.reduceBNe, Int.reduceToNat]
  exact ⟨S, fun _ _ h => h, hK⟩
theorem deadDrop {S : Store} {v : PV} (h : DeadV S v) (n : ByteArray) : PRet Try.prog 16 [v, .str n] S (.int .i64 6) := by
  intro K hK
  have hb : v.bare = v := by rcases h with rfl | ⟨_, T, rfl, rfl⟩ <;> rfl
  refine pcalls_of (C := C) (fun _ => false) (fun _ => false) Try.func16 rfl rfl (by simp [Try.f16]) ?_
  simp -implicitDefEqProofs only [go_sem, ↓reduceIte, Nat.reduceEqDiff, Nat.reduceLT, Nat.reduceLeDiff, Nat.reduceAdd, Nat.reduceMul, Nat.reduceSub, reduceCtorEq, Nat.reduceMod, Nat.reduceBEq, Int.reduceBEq, Int.reduceBNe, Int.reduceToNat, Try.f16, hb]
  refine dead_dead h _ ?_
  simp -implicitDefEqProofs only [go_sem, ↓reduceIte, Nat.reduceEqDiff, Nat.reduceLT, Nat.reduceLeDiff, Nat.reduceAdd, Nat.reduceMul, Nat.reduceSub, reduceCtorEq, Nat.reduceMod, Nat.reduceBEq, Int.reduceBEq, Int.reduceBNe, Int.reduceToNat]
  exact ⟨S, fun _ _ h => h, hK⟩
theorem deadList {S : Store} {v : PV} (h : DeadV S v) : PRet Try.prog 15 [v] S (.sl .no 4 []) := by
  intro K hK
  have hb : v.bare = v := by rcases h with rfl | ⟨_, T, rfl, rfl⟩ <;> rfl
  refine pcalls_of (C := C) (fun _ => false) (fun _ => false) Try.func15 rfl rfl (by simp [Try.f15]) ?_
  simp -implicitDefEqProofs only [go_sem, ↓reduceIte, Nat.reduceEqDiff, Nat.reduceLT, Nat.reduceLeDiff, Nat.reduceAdd, Nat.reduceMul, Nat.reduceSub, reduceCtorEq, Nat.reduceMod, Nat.reduceBEq, Int.reduceBEq, Int.reduceBNe, Int.reduceToNat, Try.f15, hb]
  refine dead_dead h _ ?_
  simp -implicitDefEqProofs only [go_sem, ↓reduceIte, Nat.reduceEqDiff, Nat.reduceLT, Nat.reduceLeDiff, Nat.reduceAdd, Nat.reduceMul, Nat.reduceSub, reduceCtorEq, Nat.reduceMod, Nat.reduceBEq, Int.reduceBEq, Int.reduceBNe, Int.reduceToNat]
  exact ⟨S, fun _ _ h => h, hK⟩
theorem deadTake {S : Store} {v : PV} (h : DeadV S v) (l : List KV) : PRet Try.prog 17 [v, .sl .no 6 (encVs l)] S (.int .i64 6) := by
  intro K hK
  have hb : v.bare = v := by rcases h with rfl | ⟨_, T, rfl, rfl⟩ <;> rfl
  refine pcalls_of (C := C) (fun _ => false) (fun _ => false) Try.func17 rfl rfl (by simp [Try.f17]) ?_
  simp -implicitDefEqProofs only [go_sem, ↓reduceIte, Nat.reduceEqDiff, Nat.reduceLT, Nat.reduceLeDiff, Nat.reduceAdd, Nat.reduceMul, Nat.reduceSub, reduceCtorEq, Nat.reduceMod, Nat.reduceBEq, Int.reduceBEq, Int.reduceBNe, Int.reduceToNat, Try.f17, hb]
  refine dead_dead h _ ?_
  simp -implicitDefEqProofs only [go_sem, ↓reduceIte, Nat.reduceEqDiff, Nat.reduceLT, Nat.reduceLeDiff, Nat.reduceAdd, Nat.reduceMul, Nat.reduceSub, reduceCtorEq, Nat.reduceMod, Nat.reduceBEq, Int.reduceBEq, Int.reduceBNe, Int.reduceToNat]
  exact ⟨S, fun _ _ h => h, hK⟩
theorem deadSet {S : Store} {v : PV} (h : DeadV S v) (rows : List (List PV)) (l : List KO) : PRet Try.prog 18 [v, .sl .no 4 rows, .sl .no 3 (encOs l)] S (.int .i64 6) := by
  intro K hK
  have hb : v.bare = v := by rcases h with rfl | ⟨_, T, rfl, rfl⟩ <;> rfl
  refine pcalls_of (C := C) (fun _ => false) (fun _ => false) Try.func18 rfl rfl (by simp [Try.f18]) ?_
  simp -implicitDefEqProofs only [go_sem, ↓reduceIte, Nat.reduceEqDiff, Nat.reduceLT, Nat.reduceLeDiff, Nat.reduceAdd, Nat.reduceMul, Nat.reduceSub, reduceCtorEq, Nat.reduceMod, Nat.reduceBEq, Int.reduceBEq, Int.reduceBNe, Int.reduceToNat, Try.f18, hb]
  refine dead_dead h _ ?_
  simp -implicitDefEqProofs only [go_sem, ↓reduceIte, Nat.reduceEqDiff, Nat.reduceLT, Nat.reduceLeDiff, Nat.reduceAdd, Nat.reduceMul, Nat.reduceSub, reduceCtorEq, Nat.reduceMod, Nat.reduceBEq, Int.reduceBEq, Int.reduceBNe, Int.reduceToNat]
  exact ⟨S, fun _ _ h => h, hK⟩
end Go.Proofs.Ytdioedabjaaboaa.V
