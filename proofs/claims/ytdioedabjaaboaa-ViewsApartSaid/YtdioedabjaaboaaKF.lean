/- Maps: whether they may be, by the document; how much operations have. -/
import Derived.Test.YtdioedabjaaboaaKE
set_option linter.unusedVariables false
set_option linter.unusedSimpArgs false
namespace Go.Proofs.Ytdioedabjaaboaa.V
open Go Go.VL

def FitO (l : List KO) : Prop := ∀ o ∈ l, o.k.size ≤ 1000000 ∧ o.v.size ≤ 1000000
theorem seen_of {l : List KO} {m k : Nat} {p : KO} {x : ByteArray} (hp : l[m]? = some p) (hm : m < k) (hs : same p.k x = true) : seenQ x (l.take k) = true := by
  unfold seenQ
  rw [List.any_eq_true]
  exact ⟨p, List.mem_of_getElem? (i := m) (by rw [List.getElem?_take, if_pos hm]; exact hp), hs⟩

def checkF (conds ops : List KO) : Int := if ops.length = 0 ∨ 6 < ops.length ∨ 6 < conds.length then 61 else if rightF [] conds = 0 then rightF [] ops else rightF [] conds
theorem rightF_ne {l : List KO} (h : rightF [] l ≠ 0) : (rightF [] l != 0) = true := by simp [h]
theorem rightF_eq {l : List KO} (h : rightF [] l = 0) : (rightF [] l != 0) = false := by simp [h]
theorem Check_spec (conds ops : List KO) (S : Store) : PRet Try.prog 39 [.sl .no 3 (encOs conds), .sl .no 3 (encOs ops)] S (.int .i64 (checkF conds ops)) := by
  intro K hK
  refine pcalls_of (C := C) (fun _ => false) (fun _ => false) Try.func39 rfl rfl (by simp [Try.f39]) ?_
  unfold checkF at hK
  by_cases h0 : ops.length = 0
  · have d0 : ((ops.length : Int) == 0) = true := by rw [h0]; rfl
    rw [if_pos (.inl h0)] at hK
    simp -implicitDefEqProofs only [go_sem, ↓reduceIte, Nat.reduceEqDiff, Nat.reduceLT, Nat.reduceLeDiff, Nat.reduceAdd, Nat.reduceMul, Nat.reduceSub, reduceCtorEq, Nat.reduceMod, Nat.reduceBEq, Int.reduceBEq, Int.reduceBNe, Int.reduceToNat, Try.f39, d0]
    exact ⟨S, fun _ _ h => h, hK⟩
  · have d0 : ((ops.length : Int) == 0) = false := by rw [beq_eq_false_iff_ne]; omega
    by_cases h1 : 6 < ops.length
    · have d1 : (6 : Int) < ops.length := by omega
      rw [if_pos (.inr (.inl h1))] at hK
      simp -implicitDefEqProofs only [go_sem, ↓reduceIte, Nat.reduceEqDiff, Nat.reduceLT, Nat.reduceLeDiff, Nat.reduceAdd, Nat.reduceMul, Nat.reduceSub, reduceCtorEq, Nat.reduceMod, Nat.reduceBEq, Int.reduceBEq, Int.reduceBNe, Int.reduceToNat, Try.f39, d0, d1]
      exact ⟨S, fun _ _ h => h, hK⟩
    · have d1 : ¬ (6 : Int) < ops.length := by omega
      by_cases h2 : 6 < conds.length
      · have d2 : (6 : Int) < conds.length := by omega
        rw [if_pos (.inr (.inr h2))] at hK
        simp -implicitDefEqProofs only [go_sem, ↓reduceIte, Nat.reduceEqDiff, Nat.reduceLT, Nat.reduceLeDiff, Nat.reduceAdd, Nat.reduceMul, Nat.reduceSub, reduceCtorEq, Nat.reduceMod, Nat.reduceBEq, Int.reduceBEq, Int.reduceBNe, Int.reduceToNat, Try.f39, d0, d1, d2]
        exact ⟨S, fun _ _ h => h, hK⟩
      · have d2 : ¬ (6 : Int) < conds.length := by omega
        rw [if_neg (by omega)] at hK
        simp -implicitDefEqProofs only [go_sem, ↓reduceIte, Nat.reduceEqDiff, Nat.reduceLT, Nat.reduceLeDiff, Nat.reduceAdd, Nat.reduceMul, Nat.reduceSub, reduceCtorEq, Nat.reduceMod, Nat.reduceBEq, Int.reduceBEq, Int.reduceBNe, Int.reduceToNat, Try.f39, d0, d1, d2]
        refine rightO_spec conds (by omega) _ _ ?_
        by_cases h3 : rightF [] conds = 0
        · rw [if_pos h3] at hK
          simp -implicitDefEqProofs only [go_sem, ↓reduceIte, Nat.reduceEqDiff, Nat.reduceLT, Nat.reduceLeDiff, Nat.reduceAdd, Nat.reduceMul, Nat.reduceSub, reduceCtorEq, Nat.reduceMod, Nat.reduceBEq, Int.reduceBEq, Int.reduceBNe, Int.reduceToNat, rightF_eq h3]
          refine rightO_spec ops (by omega) _ _ ?_
          simp -implicitDefEqProofs only [go_sem, ↓reduceIte, Nat.reduceEqDiff, Nat.reduceLT, Nat.reduceLeDiff, Nat.reduceAdd, Nat.reduceMul, Nat.reduceSub, reduceCtorEq, Nat.reduceMod, Nat.reduceBEq, Int.reduceBEq, Int.reduceBNe, Int.reduceToNat]
          exact ⟨S, fun _ _ h => h, hK⟩
        · rw [if_neg h3] at hK
          simp -implicitDefEqProofs only [go_sem, ↓reduceIte, Nat.reduceEqDiff, Nat.reduceLT, Nat.reduceLeDiff, Nat.reduceAdd, Nat.reduceMul, Nat.reduceSub, reduceCtorEq, Nat.reduceMod, Nat.reduceBEq, Int.reduceBEq, Int.reduceBNe, Int.reduceToNat, rightF_ne h3]
          exact ⟨S, fun _ _ h => h, hK⟩
/-! ### how much operations have -/
def cost (o : KO) : Nat := 1 + min o.k.size 32768 + min o.v.size 32768
def weighF (n : Nat) : List KO → Nat
  | [] => n
  | o :: l => if n ≤ 32768 then weighF (n + cost o) l else n
theorem weighF_le : ∀ (l : List KO) (n : Nat), n ≤ weighF n l
  | [], n => Nat.le_refl _
  | o :: l, n => by
    unfold weighF
    split
    · exact Nat.le_trans (Nat.le_add_right _ _) (weighF_le l _)
    · exact Nat.le_refl _
theorem weighF_lt : ∀ (l : List KO) (n : Nat), n ≤ 100000 → weighF n l ≤ 100000
  | [], n, h => h
  | o :: l, n, h => by
    unfold weighF
    split
    · refine weighF_lt l _ ?_
      unfold cost
      omega
    · exact h
theorem weighF_fit : ∀ (l : List KO) (n : Nat), weighF n l ≤ 32768 → n + l.length ≤ 32768 ∧ ∀ o ∈ l, o.k.size ≤ 32768 ∧ o.v.size ≤ 32768
  | [], n, h => ⟨h, by simp⟩
  | o :: l, n, h => by
    unfold weighF at h
    split at h
    · obtain ⟨h1, h2⟩ := weighF_fit l _ h
      have hc : cost o = 1 + min o.k.size 32768 + min o.v.size 32768 := rfl
      refine ⟨by simp only [List.length_cons]; omega, fun x hx => ?_⟩
      rcases List.mem_cons.1 hx with rfl | hx
      · omega
      · exact h2 x hx
    · omega
theorem weigh_fit {l : List KO} (h : weighF 0 l ≤ 32768) : l.length ≤ 32768 ∧ FitO l := by
  obtain ⟨h1, h2⟩ := weighF_fit l 0 h
  exact ⟨by omega, fun o ho => by have := h2 o ho; omega⟩
end Go.Proofs.Ytdioedabjaaboaa.V
