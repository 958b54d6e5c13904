/- Trees: something done. -/
import Derived.Test.YtmedhhjbknnfkaaTR
set_option linter.unusedVariables false
set_option linter.unusedSimpArgs false
namespace Go.Proofs.Ytmedhhjbknnfkaa.V
open Go Go.VL

structure Do where
  op : Int
  k : ByteArray
  v : ByteArray
def encDo (d : Do) : List PV := [.int .i64 d.op, .str d.k, .str d.v]
def putQ (op : Int) : Bool := decide (IntKind.i64.wrap ((BitVec.ofInt 64 op &&& BitVec.ofInt 64 7).toNat) < 6)
def doneL (d : Do) (L : List Pr) : List Pr := if putQ d.op then putL d.k d.v L else dropL d.k L
theorem done_sorted {L : List Pr} (h : Sorted L) (d : Do) : Sorted (doneL d L) := by
  unfold doneL
  split
  · exact sorted_put h _ _
  · exact sorted_drop h _
theorem done_len {L : List Pr} (h : Sorted L) (d : Do) : (doneL d L).length ≤ L.length + 1 := by
  unfold doneL
  split
  · exact put_len h _ _
  · exact Nat.le_succ_of_le (drop_len L _)
theorem does_spec {p : PV} {t : T} (h : Tr p t) (ho : Ok t) (hs : Sorted t.list) (hn : t.list.length ≤ 900000) (d : Do) :
    ∃ q, Ok q ∧ q.list = doneL d t.list ∧ ∀ S, PRet Try.prog 26 [p, .agg (encDo d)] S (.ip [enc q] 0) := by
  have hp : p.bare = p := by rcases h with ⟨rfl, rfl⟩ | rfl <;> rfl
  unfold doneL
  cases c : putQ d.op
  · obtain ⟨q, h1, h2, h3⟩ := Drop_spec h ho hs hn d.k
    refine ⟨q, h1, h2, fun S K hK => ?_⟩
    refine pcalls_of (C := C) (fun _ => false) (fun _ => false) Try.func26 rfl rfl (by simp [Try.f26]) ?_
    simp -implicitDefEqProofs only [go_sem, ↓reduceIte, Nat.reduceEqDiff, Nat.reduceLT, Nat.reduceLeDiff, Nat.reduceAdd, Nat.reduceMul, Nat.reduceSub, reduceCtorEq, Nat.reduceMod, Nat.reduceBEq, Int.reduceBEq, Int.reduceBNe, Int.reduceToNat, Try.f26, hp, encDo]
    refine (?_ : vCondK C _ _ _ _ _ _ (.bool (putQ d.op)))
    rw [c]
    simp -implicitDefEqProofs only [go_sem, ↓reduceIte, Nat.reduceEqDiff, Nat.reduceLT, Nat.reduceLeDiff, Nat.reduceAdd, Nat.reduceMul, Nat.reduceSub, reduceCtorEq, Nat.reduceMod, Nat.reduceBEq, Int.reduceBEq, Int.reduceBNe, Int.reduceToNat, hp]
    refine h3 _ _ ?_
    simp -implicitDefEqProofs only [go_sem, ↓reduceIte, Nat.reduceEqDiff, Nat.reduceLT, Nat.reduceLeDiff, Nat.reduceAdd, Nat.reduceMul, Nat.reduceSub, reduceCtorEq, Nat.reduceMod, Nat.reduceBEq, Int.reduceBEq, Int.reduceBNe, Int.reduceToNat]
    exact ⟨S, fun _ _ h => h, hK⟩
  · obtain ⟨q, h1, h2, h3⟩ := Put_spec h ho hs hn d.k d.v
    refine ⟨q, h1, h2, fun S K hK => ?_⟩
    refine pcalls_of (C := C) (fun _ => false) (fun _ => false) Try.func26 rfl rfl (by simp [Try.f26]) ?_
    simp -implicitDefEqProofs only [go_sem, ↓reduceIte, Nat.reduceEqDiff, Nat.reduceLT, Nat.reduceLeDiff, Nat.reduceAdd, Nat.reduceMul, Nat.reduceSub, reduceCtorEq, Nat.reduceMod, Nat.reduceBEq, Int.reduceBEq, Int.reduceBNe, Int.reduceToNat, Try.f26, hp, encDo]
    refine (?_ : vCondK C _ _ _ _ _ _ (.bool (putQ d.op)))
    rw [c]
    simp -implicitDefEqProofs only [go_sem, ↓reduceIte, Nat.reduceEqDiff, Nat.reduceLT, Nat.reduceLeDiff, Nat.reduceAdd, Nat.reduceMul, Nat.reduceSub, reduceCtorEq, Nat.reduceMod, Nat.reduceBEq, Int.reduceBEq, Int.reduceBNe, Int.reduceToNat, hp]
    refine h3 _ _ ?_
    simp -implicitDefEqProofs only [go_sem, ↓reduceIte, Nat.reduceEqDiff, Nat.reduceLT, Nat.reduceLeDiff, Nat.reduceAdd, Nat.reduceMul, Nat.reduceSub, reduceCtorEq, Nat.reduceMod, Nat.reduceBEq, Int.reduceBEq, Int.reduceBNe, Int.reduceToNat]
    exact ⟨S, fun _ _ h => h, hK⟩
end Go.Proofs.Ytmedhhjbknnfkaa.V
