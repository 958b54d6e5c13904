/- Trees: what leads from one tree to another. -/
import Derived.Test.YtmedhhjbknnfkaaTN
set_option linter.unusedVariables false
set_option linter.unusedSimpArgs false
namespace Go.Proofs.Ytmedhhjbknnfkaa.V
open Go Go.VL

def encEv (e : Ev) : List PV := [.int .i64 0, .str e.k, .bool e.had, .str e.old, .bool e.has, .str e.now]
def encEvs (l : List Ev) : List (List PV) := l.map encEv
@[go_sem] theorem len_encEvs (l : List Ev) : (encEvs l).length = l.length := by simp [encEvs]
theorem encEvs_one (a : List Ev) (k : ByteArray) (had : Bool) (old : ByteArray) (has : Bool) (now : ByteArray) : encEvs a ++ [[.int .i64 0, .str k, .bool had, .str old, .bool has, .str now]] = encEvs (a ++ [⟨k, had, old, has, now⟩]) := by simp [encEvs, encEv]
theorem small72 {k : Nat} (h : k ≤ 6000000) : k * 72 ≤ 140737488355328 ∧ k ≤ 140737488355328 := by omega

theorem diff_nil : ∀ (b : T) (out : List Ev), out.length + b.list.length ≤ 5000000 → ∀ S, PRet Try.prog 62 [.nilp, enc b, .sl .tail 6 (encEvs out)] S (.sl .tail 6 (encEvs (out ++ b.list.map evNew)))
  | .nil, out, hs, S => by
    intro K hK
    refine pcalls_of (C := C) (fun d => d == 14 || d == 6 || d == 26 || d == 27 || d == 2 || d == 28 || d == 46 || d == 47 || d == 64 || d == 65 || d == 69 || d == 95 || d == 119 || d == 120) (fun _ => false) Try.func62 rfl rfl (by simp [Try.f62]) ?_
    simp -implicitDefEqProofs only [go_sem, ↓reduceIte, Nat.reduceEqDiff, Nat.reduceLT, Nat.reduceLeDiff, Nat.reduceAdd, Nat.reduceMul, Nat.reduceSub, reduceCtorEq, Nat.reduceMod, Nat.reduceBEq, Int.reduceBEq, Int.reduceBNe, Int.reduceToNat, Try.f62, enc_nil]
    simp only [T.list, List.map_nil, List.append_nil] at hK
    exact ⟨S, fun _ _ h => h, hK⟩
  | .node k v l r d s, out, hs, S => by
    intro K hK
    simp only [T.list, List.length_append, List.length_cons] at hs
    refine pcalls_of (C := C) (fun d => d == 14 || d == 6 || d == 26 || d == 27 || d == 2 || d == 28 || d == 46 || d == 47 || d == 64 || d == 65 || d == 69 || d == 95 || d == 119 || d == 120) (fun _ => false) Try.func62 rfl rfl (by simp [Try.f62]) ?_
    simp -implicitDefEqProofs only [go_sem, ↓reduceIte, Nat.reduceEqDiff, Nat.reduceLT, Nat.reduceLeDiff, Nat.reduceAdd, Nat.reduceMul, Nat.reduceSub, reduceCtorEq, Nat.reduceMod, Nat.reduceBEq, Int.reduceBEq, Int.reduceBNe, Int.reduceToNat, Try.f62, enc_node]
    refine ⟨by decide, diff_nil l out (by omega) _ _ ?_⟩
    simp -implicitDefEqProofs only [go_sem, ↓reduceIte, Nat.reduceEqDiff, Nat.reduceLT, Nat.reduceLeDiff, Nat.reduceAdd, Nat.reduceMul, Nat.reduceSub, reduceCtorEq, Nat.reduceMod, Nat.reduceBEq, Int.reduceBEq, Int.reduceBNe, Int.reduceToNat]
    refine vwp_draw (by decide +kernel) ?_
    have hap := small72 (k := (out ++ l.list.map evNew).length + 1) (by simp only [List.length_append, List.length_map]; omega)
    simp -implicitDefEqProofs only [go_sem, ↓reduceIte, Nat.reduceEqDiff, Nat.reduceLT, Nat.reduceLeDiff, Nat.reduceAdd, Nat.reduceMul, Nat.reduceSub, reduceCtorEq, Nat.reduceMod, Nat.reduceBEq, Int.reduceBEq, Int.reduceBNe, Int.reduceToNat, hap]
    rw [encEvs_one]
    refine ⟨by decide, diff_nil r _ (by simp only [List.length_append, List.length_map, List.length_cons, List.length_nil]; omega) _ _ ?_⟩
    simp -implicitDefEqProofs only [go_sem, ↓reduceIte, Nat.reduceEqDiff, Nat.reduceLT, Nat.reduceLeDiff, Nat.reduceAdd, Nat.reduceMul, Nat.reduceSub, reduceCtorEq, Nat.reduceMod, Nat.reduceBEq, Int.reduceBEq, Int.reduceBNe, Int.reduceToNat]
    simp only [T.list, List.map_append, List.map_cons, evNew] at hK
    simp only [List.append_assoc, List.cons_append, List.nil_append]
    exact ⟨S, fun _ _ h => h, hK⟩
end Go.Proofs.Ytmedhhjbknnfkaa.V
