/- Maps: whether they may be, by the document; how much operations have. -/
import Derived.Test.YtdioedabjaaboaaGreatKE
set_option linter.unusedVariables false
set_option linter.unusedSimpArgs false
namespace Go.Proofs.YtdioedabjaaboaaGreat.V
open Go Go.VL

def FitO (l : List KO) : Prop := ∀ o ∈ l, o.k.size ≤ 1000000 ∧ o.v.size ≤ 1000000
def checkF (conds ops : List KO) : Int := if ops.length = 0 ∨ 6 < ops.length ∨ 6 < conds.length then 61 else if rightF [] conds = 0 then rightF [] ops else rightF [] conds
theorem rightF_ne {l : List KO} (h : rightF [] l ≠ 0) : (rightF [] l != 0) = true := by simp [h]
theorem rightF_eq {l : List KO} (h : rightF [] l = 0) : (rightF [] l != 0) = false := by simp [h]
theorem Check_spec (conds ops : List KO) (S : Store) : PRet Tryz.prog 61 [.sl .no 3 (encOs conds), .sl .no 3 (encOs ops)] S (.int .i64 (checkF conds ops)) := by
 intro K hK
 refine pcalls_of (C := C) (fun _ => false) (fun _ => false) Tryz.func61 rfl rfl (by simp [Tryz.f61]) ?_
 unfold checkF at hK
 by_cases h0 : ops.length = 0
 ·have d0 : ((ops.length : Int) == 0) = true := by rw [h0]; rfl
  rw [if_pos (.inl h0)] at hK
  simp -implicitDefEqProofs only [go_sem, ↓reduceIte, Nat.reduceEqDiff, Nat.reduceLT, Nat.reduceLeDiff, Nat.reduceAdd, Nat.reduceMul, Nat.reduceSub, reduceCtorEq, Nat.reduceMod, Nat.reduceBEq, Int.reduceBEq, Int.reduceBNe, Int.reduceToNat, Tryz.f61, d0]
  exact ⟨S, fun _ _ h => h, hK⟩
 ·have d0 : ((ops.length : Int) == 0) = false := by rw [beq_eq_false_iff_ne]; omega
  by_cases h1 : 6 < ops.length
  ·have d1 : (6 : Int) < ops.length := by omega
   rw [if_pos (.inr (.inl h1))] at hK
   simp -implicitDefEqProofs only [go_sem, ↓reduceIte, Nat.reduceEqDiff, Nat.reduceLT, Nat.reduceLeDiff, Nat.reduceAdd, Nat.reduceMul, Nat.reduceSub, reduceCtorEq, Nat.reduceMod, Nat.reduceBEq, Int.reduceBEq, Int.reduceBNe, Int.reduceToNat, Tryz.f61, d0, d1]
   exact ⟨S, fun _ _ h => h, hK⟩
  ·have d1 : ¬ (6 : Int) < ops.length := by omega
   by_cases h2 : 6 < conds.length
   ·have d2 : (6 : Int) < conds.length := by omega
    rw [if_pos (.inr (.inr h2))] at hK
    simp -implicitDefEqProofs only [go_sem, ↓reduceIte, Nat.reduceEqDiff, Nat.reduceLT, Nat.reduceLeDiff, Nat.reduceAdd, Nat.reduceMul, Nat.reduceSub, reduceCtorEq, Nat.reduceMod, Nat.reduceBEq, Int.reduceBEq, Int.reduceBNe, Int.reduceToNat, Tryz.f61, d0, d1, d2]
    exact ⟨S, fun _ _ h => h, hK⟩
   ·have d2 : ¬ (6 : Int) < conds.length := by omega
    rw [if_neg (by omega)] at hK
    simp -implicitDefEqProofs only [go_sem, ↓reduceIte, Nat.reduceEqDiff, Nat.reduceLT, Nat.reduceLeDiff, Nat.reduceAdd, Nat.reduceMul, Nat.reduceSub, reduceCtorEq, Nat.reduceMod, Nat.reduceBEq, Int.reduceBEq, Int.reduceBNe, Int.reduceToNat, Tryz.f61, d0, d1, d2]
    refine rightO_spec conds (by omega) _ _ ?_
    by_cases h3 : rightF [] conds = 0
    ·rw [if_pos h3] at hK
     simp -implicitDefEqProofs only [go_sem, ↓reduceIte, Nat.reduceEqDiff, Nat.reduceLT, Nat.reduceLeDiff, Nat.reduceAdd, Nat.reduceMul, Nat.reduceSub, reduceCtorEq, Nat.reduceMod, Nat.reduceBEq, Int.reduceBEq, Int.reduceBNe, Int.reduceToNat, rightF_eq h3]
     refine rightO_spec ops (by omega) _ _ ?_
     simp -implicitDefEqProofs only [go_sem, ↓reduceIte, Nat.reduceEqDiff, Nat.reduceLT, Nat.reduceLeDiff, Nat.reduceAdd, Nat.reduceMul, Nat.reduceSub, reduceCtorEq, Nat.reduceMod, Nat.reduceBEq, Int.reduceBEq, Int.reduceBNe, Int.reduceToNat]
     exact ⟨S, fun _ _ h => h, hK⟩
    ·rw [if_neg h3] at hK
     simp -implicitDefEqProofs only [go_sem, ↓reduceIte, Nat.reduceEqDiff, Nat.reduceLT, Nat.reduceLeDiff, Nat.reduceAdd, Nat.reduceMul, Nat.reduceSub, reduceCtorEq, Nat.reduceMod, Nat.reduceBEq, Int.reduceBEq, Int.reduceBNe, Int.reduceToNat, rightF_ne h3]
     exact ⟨S, fun _ _ h => h, hK⟩
end Go.Proofs.YtdioedabjaaboaaGreat.V
