/- Trees: the pairs between two keys. -/
import Derived.Test.YtmedhhjbknnfkaaTI
set_option linter.unusedVariables false
set_option linter.unusedSimpArgs false
namespace Go.Proofs.Ytmedhhjbknnfkaa.V
open Go Go.VL

def inside (to k : ByteArray) : Bool := same to ⟨#[]⟩ || lt k to
def scanStep (frm to : ByteArray) (most : Int) (out : List Pr) (p : Pr) : List Pr := if !lt p.1 frm && inside to p.1 && decide ((out.length : Int) < most) then out ++ [p] else out
def scanL (frm to : ByteArray) (most : Int) (L : List Pr) (out : List Pr) : List Pr := L.foldl (scanStep frm to most) out
section
variable {frm to : ByteArray} {most : Int}
theorem scanL_app (A : List Pr) (p : Pr) (B out : List Pr) : scanL frm to most (A ++ p :: B) out = scanL frm to most B (scanStep frm to most (scanL frm to most A out) p) := by simp [scanL]
theorem scanL_full : ∀ (L out : List Pr), most ≤ out.length → scanL frm to most L out = out
  | [], out, _ => rfl
  | p :: L, out, h => by
    have : scanStep frm to most out p = out := by
      unfold scanStep
      rw [if_neg (by simp; intros; omega)]
    show scanL frm to most L (scanStep frm to most out p) = out
    rw [this]
    exact scanL_full L out h
theorem scanL_less : ∀ (L out : List Pr), (∀ p ∈ L, lt p.1 frm = true) → scanL frm to most L out = out
  | [], out, _ => rfl
  | p :: L, out, h => by
    have : scanStep frm to most out p = out := by
      unfold scanStep
      rw [if_neg (by rw [h p List.mem_cons_self]; simp)]
    show scanL frm to most L (scanStep frm to most out p) = out
    rw [this]
    exact scanL_less L out fun q hq => h q (List.mem_cons_of_mem _ hq)
theorem scanL_out : ∀ (L out : List Pr), (∀ p ∈ L, inside to p.1 = false) → scanL frm to most L out = out
  | [], out, _ => rfl
  | p :: L, out, h => by
    have : scanStep frm to most out p = out := by
      unfold scanStep
      rw [if_neg (by rw [h p List.mem_cons_self]; simp)]
    show scanL frm to most L (scanStep frm to most out p) = out
    rw [this]
    exact scanL_out L out fun q hq => h q (List.mem_cons_of_mem _ hq)
theorem scanL_len : ∀ (L out : List Pr), (scanL frm to most L out).length ≤ out.length + L.length
  | [], out => Nat.le_refl _
  | p :: L, out => by
    have : (scanStep frm to most out p).length ≤ out.length + 1 := by
      unfold scanStep
      split <;> simp
    have h2 := scanL_len L (scanStep frm to most out p)
    have h3 : scanL frm to most (p :: L) out = scanL frm to most L (scanStep frm to most out p) := rfl
    rw [h3]
    simp only [List.length_cons]
    omega
end
theorem le_lt {a b c : ByteArray} (h1 : lt a b = true) (h2 : lt c b = false) : lt a c = true := by
  cases e : lt b c with
  | true => exact lt_trans h1 e
  | false => rw [← lt_tri e h2]; exact h1

set_option maxHeartbeats 2000000 in
theorem scan_spec (frm to : ByteArray) (most : Int) : ∀ (n : T) (out : List Pr), Sorted n.list → out.length + n.list.length ≤ 2000000 → ∀ S,
    PRet Try.prog 61 [enc n, .str frm, .str to, .int .i64 most, .sl .tail 2 (encPs out)] S (.sl .tail 2 (encPs (scanL frm to most n.list out)))
  | .nil, out, hso, hs, S => by
    intro K hK
    refine pcalls_of (C := C) (fun d => d == 35 || d == 36 || d == 4 || d == 64 || d == 79 || d == 80 || d == 81 || d == 10 || d == 20) (fun _ => false) Try.func61 rfl rfl (by simp [Try.f61]) ?_
    simp -implicitDefEqProofs only [go_sem, ↓reduceIte, Nat.reduceEqDiff, Nat.reduceLT, Nat.reduceLeDiff, Nat.reduceAdd, Nat.reduceMul, Nat.reduceSub, reduceCtorEq, Nat.reduceMod, Nat.reduceBEq, Int.reduceBEq, Int.reduceBNe, Int.reduceToNat, Try.f61, enc_nil]
    exact ⟨S, fun _ _ h => h, hK⟩
  | .node k v l r d s, out, hso, hs, S => by
    intro K hK
    refine pcalls_of (C := C) (fun d => d == 35 || d == 36 || d == 4 || d == 64 || d == 79 || d == 80 || d == 81 || d == 10 || d == 20) (fun _ => false) Try.func61 rfl rfl (by simp [Try.f61]) ?_
    simp only [T.list] at hso hK
    simp only [T.list, List.length_append, List.length_cons] at hs
    obtain ⟨sl, sr, sA, sB⟩ := sorted_mid hso
    by_cases c0 : most ≤ out.length
    · rw [scanL_full _ _ c0] at hK
      simp -implicitDefEqProofs only [go_sem, ↓reduceIte, Nat.reduceEqDiff, Nat.reduceLT, Nat.reduceLeDiff, Nat.reduceAdd, Nat.reduceMul, Nat.reduceSub, reduceCtorEq, Nat.reduceMod, Nat.reduceBEq, Int.reduceBEq, Int.reduceBNe, Int.reduceToNat, Try.f61, enc_node, c0]
      exact ⟨S, fun _ _ h => h, hK⟩
    · simp -implicitDefEqProofs only [go_sem, ↓reduceIte, Nat.reduceEqDiff, Nat.reduceLT, Nat.reduceLeDiff, Nat.reduceAdd, Nat.reduceMul, Nat.reduceSub, reduceCtorEq, Nat.reduceMod, Nat.reduceBEq, Int.reduceBEq, Int.reduceBNe, Int.reduceToNat, Try.f61, enc_node, c0]
      rw [scanL_app] at hK
      have ol := scanL_len (frm := frm) (to := to) (most := most) l.list out
      have ihl := scan_spec frm to most l out sl (by omega)
      generalize hO : scanL frm to most l.list out = O at hK ol ihl
      have ihr : ∀ O2 : List Pr, O2.length ≤ O.length + 1 → ∀ S, PRet Try.prog 61 [enc r, .str frm, .str to, .int .i64 most, .sl .tail 2 (encPs O2)] S (.sl .tail 2 (encPs (scanL frm to most r.list O2))) := fun O2 h2 => scan_spec frm to most r O2 sr (by omega)
      have hap : (O.length + 1) * 32 ≤ 140737488355328 ∧ O.length + 1 ≤ 140737488355328 := by omega
      refine mid_cond (fun e2 S2 => S2 = S ∧ e2 0 = .np [.str k, .str v, enc l, enc r, .int .i64 d, .int .i64 s] ∧ e2 1 = .str frm ∧ e2 2 = .str to ∧ e2 3 = .int .i64 most ∧ e2 4 = .sl .tail 2 (encPs O)) ?_ ?_
      · rintro e S2 ⟨rfl, e0, e1, e2, e3, e4⟩
        have nin : inside to k = false → scanL frm to most r.list O = O := fun hi => scanL_out _ _ fun p hp => by
          unfold inside at hi ⊢
          simp only [Bool.or_eq_false_iff] at hi ⊢
          refine ⟨hi.1, ?_⟩
          cases e : lt p.1 to with
          | false => rfl
          | true => rw [lt_trans (sB p hp) e] at hi; cases hi.2
        rcases (Bool.eq_false_or_eq_true (lt k frm)).symm with b1 | b1 <;> rcases (Bool.eq_false_or_eq_true (same to ⟨#[]⟩)).symm with b2 | b2 <;> rcases (Bool.eq_false_or_eq_true (lt k to)).symm with b3 | b3 <;> by_cases b4 : (O.length : Int) < most
        · have hst : scanStep frm to most O (k, v) = O := by simp [scanStep, inside, b1, b2, b3, b4]
          rw [hst] at hK
          rw [nin (by simp [inside, b2, b3])] at hK
          simp -implicitDefEqProofs only [go_sem, ↓reduceIte, Nat.reduceEqDiff, Nat.reduceLT, Nat.reduceLeDiff, Nat.reduceAdd, Nat.reduceMul, Nat.reduceSub, reduceCtorEq, Nat.reduceMod, Nat.reduceBEq, Int.reduceBEq, Int.reduceBNe, Int.reduceToNat, e0, e1, e2, e3, e4, enc_node, b1, b2, b3, b4, hap]
          exact ⟨S2, fun _ _ h => h, hK⟩
        · have hst : scanStep frm to most O (k, v) = O := by simp [scanStep, inside, b1, b2, b3, b4]
          rw [hst] at hK
          rw [nin (by simp [inside, b2, b3])] at hK
          simp -implicitDefEqProofs only [go_sem, ↓reduceIte, Nat.reduceEqDiff, Nat.reduceLT, Nat.reduceLeDiff, Nat.reduceAdd, Nat.reduceMul, Nat.reduceSub, reduceCtorEq, Nat.reduceMod, Nat.reduceBEq, Int.reduceBEq, Int.reduceBNe, Int.reduceToNat, e0, e1, e2, e3, e4, enc_node, b1, b2, b3, b4, hap]
          exact ⟨S2, fun _ _ h => h, hK⟩
        · have hst : scanStep frm to most O (k, v) = O ++ [(k, v)] := by simp [scanStep, inside, b1, b2, b3, b4]
          rw [hst] at hK
          simp -implicitDefEqProofs only [go_sem, ↓reduceIte, Nat.reduceEqDiff, Nat.reduceLT, Nat.reduceLeDiff, Nat.reduceAdd, Nat.reduceMul, Nat.reduceSub, reduceCtorEq, Nat.reduceMod, Nat.reduceBEq, Int.reduceBEq, Int.reduceBNe, Int.reduceToNat, e0, e1, e2, e3, e4, enc_node, b1, b2, b3, b4, hap]
          rw [encPs_one]
          refine ⟨by decide, ihr (O ++ [(k, v)]) (by simp) _ _ ?_⟩
          simp -implicitDefEqProofs only [go_sem, ↓reduceIte, Nat.reduceEqDiff, Nat.reduceLT, Nat.reduceLeDiff, Nat.reduceAdd, Nat.reduceMul, Nat.reduceSub, reduceCtorEq, Nat.reduceMod, Nat.reduceBEq, Int.reduceBEq, Int.reduceBNe, Int.reduceToNat]
          exact ⟨S2, fun _ _ h => h, hK⟩
        · have hst : scanStep frm to most O (k, v) = O := by simp [scanStep, inside, b1, b2, b3, b4]
          rw [hst] at hK
          simp -implicitDefEqProofs only [go_sem, ↓reduceIte, Nat.reduceEqDiff, Nat.reduceLT, Nat.reduceLeDiff, Nat.reduceAdd, Nat.reduceMul, Nat.reduceSub, reduceCtorEq, Nat.reduceMod, Nat.reduceBEq, Int.reduceBEq, Int.reduceBNe, Int.reduceToNat, e0, e1, e2, e3, e4, enc_node, b1, b2, b3, b4, hap]
          refine ⟨by decide, ihr O (by simp) _ _ ?_⟩
          simp -implicitDefEqProofs only [go_sem, ↓reduceIte, Nat.reduceEqDiff, Nat.reduceLT, Nat.reduceLeDiff, Nat.reduceAdd, Nat.reduceMul, Nat.reduceSub, reduceCtorEq, Nat.reduceMod, Nat.reduceBEq, Int.reduceBEq, Int.reduceBNe, Int.reduceToNat]
          exact ⟨S2, fun _ _ h => h, hK⟩
        · have hst : scanStep frm to most O (k, v) = O ++ [(k, v)] := by simp [scanStep, inside, b1, b2, b3, b4]
          rw [hst] at hK
          simp -implicitDefEqProofs only [go_sem, ↓reduceIte, Nat.reduceEqDiff, Nat.reduceLT, Nat.reduceLeDiff, Nat.reduceAdd, Nat.reduceMul, Nat.reduceSub, reduceCtorEq, Nat.reduceMod, Nat.reduceBEq, Int.reduceBEq, Int.reduceBNe, Int.reduceToNat, e0, e1, e2, e3, e4, enc_node, b1, b2, b3, b4, hap]
          rw [encPs_one]
          refine ⟨by decide, ihr (O ++ [(k, v)]) (by simp) _ _ ?_⟩
          simp -implicitDefEqProofs only [go_sem, ↓reduceIte, Nat.reduceEqDiff, Nat.reduceLT, Nat.reduceLeDiff, Nat.reduceAdd, Nat.reduceMul, Nat.reduceSub, reduceCtorEq, Nat.reduceMod, Nat.reduceBEq, Int.reduceBEq, Int.reduceBNe, Int.reduceToNat]
          exact ⟨S2, fun _ _ h => h, hK⟩
        · have hst : scanStep frm to most O (k, v) = O := by simp [scanStep, inside, b1, b2, b3, b4]
          rw [hst] at hK
          simp -implicitDefEqProofs only [go_sem, ↓reduceIte, Nat.reduceEqDiff, Nat.reduceLT, Nat.reduceLeDiff, Nat.reduceAdd, Nat.reduceMul, Nat.reduceSub, reduceCtorEq, Nat.reduceMod, Nat.reduceBEq, Int.reduceBEq, Int.reduceBNe, Int.reduceToNat, e0, e1, e2, e3, e4, enc_node, b1, b2, b3, b4, hap]
          refine ⟨by decide, ihr O (by simp) _ _ ?_⟩
          simp -implicitDefEqProofs only [go_sem, ↓reduceIte, Nat.reduceEqDiff, Nat.reduceLT, Nat.reduceLeDiff, Nat.reduceAdd, Nat.reduceMul, Nat.reduceSub, reduceCtorEq, Nat.reduceMod, Nat.reduceBEq, Int.reduceBEq, Int.reduceBNe, Int.reduceToNat]
          exact ⟨S2, fun _ _ h => h, hK⟩
        · have hst : scanStep frm to most O (k, v) = O ++ [(k, v)] := by simp [scanStep, inside, b1, b2, b3, b4]
          rw [hst] at hK
          simp -implicitDefEqProofs only [go_sem, ↓reduceIte, Nat.reduceEqDiff, Nat.reduceLT, Nat.reduceLeDiff, Nat.reduceAdd, Nat.reduceMul, Nat.reduceSub, reduceCtorEq, Nat.reduceMod, Nat.reduceBEq, Int.reduceBEq, Int.reduceBNe, Int.reduceToNat, e0, e1, e2, e3, e4, enc_node, b1, b2, b3, b4, hap]
          rw [encPs_one]
          refine ⟨by decide, ihr (O ++ [(k, v)]) (by simp) _ _ ?_⟩
          simp -implicitDefEqProofs only [go_sem, ↓reduceIte, Nat.reduceEqDiff, Nat.reduceLT, Nat.reduceLeDiff, Nat.reduceAdd, Nat.reduceMul, Nat.reduceSub, reduceCtorEq, Nat.reduceMod, Nat.reduceBEq, Int.reduceBEq, Int.reduceBNe, Int.reduceToNat]
          exact ⟨S2, fun _ _ h => h, hK⟩
        · have hst : scanStep frm to most O (k, v) = O := by simp [scanStep, inside, b1, b2, b3, b4]
          rw [hst] at hK
          simp -implicitDefEqProofs only [go_sem, ↓reduceIte, Nat.reduceEqDiff, Nat.reduceLT, Nat.reduceLeDiff, Nat.reduceAdd, Nat.reduceMul, Nat.reduceSub, reduceCtorEq, Nat.reduceMod, Nat.reduceBEq, Int.reduceBEq, Int.reduceBNe, Int.reduceToNat, e0, e1, e2, e3, e4, enc_node, b1, b2, b3, b4, hap]
          refine ⟨by decide, ihr O (by simp) _ _ ?_⟩
          simp -implicitDefEqProofs only [go_sem, ↓reduceIte, Nat.reduceEqDiff, Nat.reduceLT, Nat.reduceLeDiff, Nat.reduceAdd, Nat.reduceMul, Nat.reduceSub, reduceCtorEq, Nat.reduceMod, Nat.reduceBEq, Int.reduceBEq, Int.reduceBNe, Int.reduceToNat]
          exact ⟨S2, fun _ _ h => h, hK⟩
        · have hst : scanStep frm to most O (k, v) = O := by simp [scanStep, inside, b1, b2, b3, b4]
          rw [hst] at hK
          rw [nin (by simp [inside, b2, b3])] at hK
          simp -implicitDefEqProofs only [go_sem, ↓reduceIte, Nat.reduceEqDiff, Nat.reduceLT, Nat.reduceLeDiff, Nat.reduceAdd, Nat.reduceMul, Nat.reduceSub, reduceCtorEq, Nat.reduceMod, Nat.reduceBEq, Int.reduceBEq, Int.reduceBNe, Int.reduceToNat, e0, e1, e2, e3, e4, enc_node, b1, b2, b3, b4, hap]
          exact ⟨S2, fun _ _ h => h, hK⟩
        · have hst : scanStep frm to most O (k, v) = O := by simp [scanStep, inside, b1, b2, b3, b4]
          rw [hst] at hK
          rw [nin (by simp [inside, b2, b3])] at hK
          simp -implicitDefEqProofs only [go_sem, ↓reduceIte, Nat.reduceEqDiff, Nat.reduceLT, Nat.reduceLeDiff, Nat.reduceAdd, Nat.reduceMul, Nat.reduceSub, reduceCtorEq, Nat.reduceMod, Nat.reduceBEq, Int.reduceBEq, Int.reduceBNe, Int.reduceToNat, e0, e1, e2, e3, e4, enc_node, b1, b2, b3, b4, hap]
          exact ⟨S2, fun _ _ h => h, hK⟩
        · have hst : scanStep frm to most O (k, v) = O := by simp [scanStep, inside, b1, b2, b3, b4]
          rw [hst] at hK
          simp -implicitDefEqProofs only [go_sem, ↓reduceIte, Nat.reduceEqDiff, Nat.reduceLT, Nat.reduceLeDiff, Nat.reduceAdd, Nat.reduceMul, Nat.reduceSub, reduceCtorEq, Nat.reduceMod, Nat.reduceBEq, Int.reduceBEq, Int.reduceBNe, Int.reduceToNat, e0, e1, e2, e3, e4, enc_node, b1, b2, b3, b4, hap]
          refine ⟨by decide, ihr O (by simp) _ _ ?_⟩
          simp -implicitDefEqProofs only [go_sem, ↓reduceIte, Nat.reduceEqDiff, Nat.reduceLT, Nat.reduceLeDiff, Nat.reduceAdd, Nat.reduceMul, Nat.reduceSub, reduceCtorEq, Nat.reduceMod, Nat.reduceBEq, Int.reduceBEq, Int.reduceBNe, Int.reduceToNat]
          exact ⟨S2, fun _ _ h => h, hK⟩
        · have hst : scanStep frm to most O (k, v) = O := by simp [scanStep, inside, b1, b2, b3, b4]
          rw [hst] at hK
          simp -implicitDefEqProofs only [go_sem, ↓reduceIte, Nat.reduceEqDiff, Nat.reduceLT, Nat.reduceLeDiff, Nat.reduceAdd, Nat.reduceMul, Nat.reduceSub, reduceCtorEq, Nat.reduceMod, Nat.reduceBEq, Int.reduceBEq, Int.reduceBNe, Int.reduceToNat, e0, e1, e2, e3, e4, enc_node, b1, b2, b3, b4, hap]
          refine ⟨by decide, ihr O (by simp) _ _ ?_⟩
          simp -implicitDefEqProofs only [go_sem, ↓reduceIte, Nat.reduceEqDiff, Nat.reduceLT, Nat.reduceLeDiff, Nat.reduceAdd, Nat.reduceMul, Nat.reduceSub, reduceCtorEq, Nat.reduceMod, Nat.reduceBEq, Int.reduceBEq, Int.reduceBNe, Int.reduceToNat]
          exact ⟨S2, fun _ _ h => h, hK⟩
        · have hst : scanStep frm to most O (k, v) = O := by simp [scanStep, inside, b1, b2, b3, b4]
          rw [hst] at hK
          simp -implicitDefEqProofs only [go_sem, ↓reduceIte, Nat.reduceEqDiff, Nat.reduceLT, Nat.reduceLeDiff, Nat.reduceAdd, Nat.reduceMul, Nat.reduceSub, reduceCtorEq, Nat.reduceMod, Nat.reduceBEq, Int.reduceBEq, Int.reduceBNe, Int.reduceToNat, e0, e1, e2, e3, e4, enc_node, b1, b2, b3, b4, hap]
          refine ⟨by decide, ihr O (by simp) _ _ ?_⟩
          simp -implicitDefEqProofs only [go_sem, ↓reduceIte, Nat.reduceEqDiff, Nat.reduceLT, Nat.reduceLeDiff, Nat.reduceAdd, Nat.reduceMul, Nat.reduceSub, reduceCtorEq, Nat.reduceMod, Nat.reduceBEq, Int.reduceBEq, Int.reduceBNe, Int.reduceToNat]
          exact ⟨S2, fun _ _ h => h, hK⟩
        · have hst : scanStep frm to most O (k, v) = O := by simp [scanStep, inside, b1, b2, b3, b4]
          rw [hst] at hK
          simp -implicitDefEqProofs only [go_sem, ↓reduceIte, Nat.reduceEqDiff, Nat.reduceLT, Nat.reduceLeDiff, Nat.reduceAdd, Nat.reduceMul, Nat.reduceSub, reduceCtorEq, Nat.reduceMod, Nat.reduceBEq, Int.reduceBEq, Int.reduceBNe, Int.reduceToNat, e0, e1, e2, e3, e4, enc_node, b1, b2, b3, b4, hap]
          refine ⟨by decide, ihr O (by simp) _ _ ?_⟩
          simp -implicitDefEqProofs only [go_sem, ↓reduceIte, Nat.reduceEqDiff, Nat.reduceLT, Nat.reduceLeDiff, Nat.reduceAdd, Nat.reduceMul, Nat.reduceSub, reduceCtorEq, Nat.reduceMod, Nat.reduceBEq, Int.reduceBEq, Int.reduceBNe, Int.reduceToNat]
          exact ⟨S2, fun _ _ h => h, hK⟩
        · have hst : scanStep frm to most O (k, v) = O := by simp [scanStep, inside, b1, b2, b3, b4]
          rw [hst] at hK
          simp -implicitDefEqProofs only [go_sem, ↓reduceIte, Nat.reduceEqDiff, Nat.reduceLT, Nat.reduceLeDiff, Nat.reduceAdd, Nat.reduceMul, Nat.reduceSub, reduceCtorEq, Nat.reduceMod, Nat.reduceBEq, Int.reduceBEq, Int.reduceBNe, Int.reduceToNat, e0, e1, e2, e3, e4, enc_node, b1, b2, b3, b4, hap]
          refine ⟨by decide, ihr O (by simp) _ _ ?_⟩
          simp -implicitDefEqProofs only [go_sem, ↓reduceIte, Nat.reduceEqDiff, Nat.reduceLT, Nat.reduceLeDiff, Nat.reduceAdd, Nat.reduceMul, Nat.reduceSub, reduceCtorEq, Nat.reduceMod, Nat.reduceBEq, Int.reduceBEq, Int.reduceBNe, Int.reduceToNat]
          exact ⟨S2, fun _ _ h => h, hK⟩
        · have hst : scanStep frm to most O (k, v) = O := by simp [scanStep, inside, b1, b2, b3, b4]
          rw [hst] at hK
          simp -implicitDefEqProofs only [go_sem, ↓reduceIte, Nat.reduceEqDiff, Nat.reduceLT, Nat.reduceLeDiff, Nat.reduceAdd, Nat.reduceMul, Nat.reduceSub, reduceCtorEq, Nat.reduceMod, Nat.reduceBEq, Int.reduceBEq, Int.reduceBNe, Int.reduceToNat, e0, e1, e2, e3, e4, enc_node, b1, b2, b3, b4, hap]
          refine ⟨by decide, ihr O (by simp) _ _ ?_⟩
          simp -implicitDefEqProofs only [go_sem, ↓reduceIte, Nat.reduceEqDiff, Nat.reduceLT, Nat.reduceLeDiff, Nat.reduceAdd, Nat.reduceMul, Nat.reduceSub, reduceCtorEq, Nat.reduceMod, Nat.reduceBEq, Int.reduceBEq, Int.reduceBNe, Int.reduceToNat]
          exact ⟨S2, fun _ _ h => h, hK⟩
      · intro W' hW'
        rcases (Bool.eq_false_or_eq_true (lt frm k)).symm with c1 | c1
        · have : O = out := by
            rw [← hO]
            exact scanL_less _ _ fun p hp => le_lt (sA p hp) c1
          subst this
          simp -implicitDefEqProofs only [go_sem, ↓reduceIte, Nat.reduceEqDiff, Nat.reduceLT, Nat.reduceLeDiff, Nat.reduceAdd, Nat.reduceMul, Nat.reduceSub, reduceCtorEq, Nat.reduceMod, Nat.reduceBEq, Int.reduceBEq, Int.reduceBNe, Int.reduceToNat, c1]
          exact hW' _ _ ⟨rfl, by simp -implicitDefEqProofs only [go_sem, ↓reduceIte, Nat.reduceEqDiff, Nat.reduceLT, Nat.reduceLeDiff, Nat.reduceAdd, Nat.reduceMul, Nat.reduceSub, reduceCtorEq, Nat.reduceMod, Nat.reduceBEq, Int.reduceBEq, Int.reduceBNe, Int.reduceToNat], by simp -implicitDefEqProofs only [go_sem, ↓reduceIte, Nat.reduceEqDiff, Nat.reduceLT, Nat.reduceLeDiff, Nat.reduceAdd, Nat.reduceMul, Nat.reduceSub, reduceCtorEq, Nat.reduceMod, Nat.reduceBEq, Int.reduceBEq, Int.reduceBNe, Int.reduceToNat], by simp -implicitDefEqProofs only [go_sem, ↓reduceIte, Nat.reduceEqDiff, Nat.reduceLT, Nat.reduceLeDiff, Nat.reduceAdd, Nat.reduceMul, Nat.reduceSub, reduceCtorEq, Nat.reduceMod, Nat.reduceBEq, Int.reduceBEq, Int.reduceBNe, Int.reduceToNat], by simp -implicitDefEqProofs only [go_sem, ↓reduceIte, Nat.reduceEqDiff, Nat.reduceLT, Nat.reduceLeDiff, Nat.reduceAdd, Nat.reduceMul, Nat.reduceSub, reduceCtorEq, Nat.reduceMod, Nat.reduceBEq, Int.reduceBEq, Int.reduceBNe, Int.reduceToNat], by simp -implicitDefEqProofs only [go_sem, ↓reduceIte, Nat.reduceEqDiff, Nat.reduceLT, Nat.reduceLeDiff, Nat.reduceAdd, Nat.reduceMul, Nat.reduceSub, reduceCtorEq, Nat.reduceMod, Nat.reduceBEq, Int.reduceBEq, Int.reduceBNe, Int.reduceToNat]⟩
        · simp -implicitDefEqProofs only [go_sem, ↓reduceIte, Nat.reduceEqDiff, Nat.reduceLT, Nat.reduceLeDiff, Nat.reduceAdd, Nat.reduceMul, Nat.reduceSub, reduceCtorEq, Nat.reduceMod, Nat.reduceBEq, Int.reduceBEq, Int.reduceBNe, Int.reduceToNat, c1]
          refine ⟨by decide, ihl _ _ ?_⟩
          simp -implicitDefEqProofs only [go_sem, ↓reduceIte, Nat.reduceEqDiff, Nat.reduceLT, Nat.reduceLeDiff, Nat.reduceAdd, Nat.reduceMul, Nat.reduceSub, reduceCtorEq, Nat.reduceMod, Nat.reduceBEq, Int.reduceBEq, Int.reduceBNe, Int.reduceToNat]
          exact hW' _ _ ⟨rfl, by simp -implicitDefEqProofs only [go_sem, ↓reduceIte, Nat.reduceEqDiff, Nat.reduceLT, Nat.reduceLeDiff, Nat.reduceAdd, Nat.reduceMul, Nat.reduceSub, reduceCtorEq, Nat.reduceMod, Nat.reduceBEq, Int.reduceBEq, Int.reduceBNe, Int.reduceToNat], by simp -implicitDefEqProofs only [go_sem, ↓reduceIte, Nat.reduceEqDiff, Nat.reduceLT, Nat.reduceLeDiff, Nat.reduceAdd, Nat.reduceMul, Nat.reduceSub, reduceCtorEq, Nat.reduceMod, Nat.reduceBEq, Int.reduceBEq, Int.reduceBNe, Int.reduceToNat], by simp -implicitDefEqProofs only [go_sem, ↓reduceIte, Nat.reduceEqDiff, Nat.reduceLT, Nat.reduceLeDiff, Nat.reduceAdd, Nat.reduceMul, Nat.reduceSub, reduceCtorEq, Nat.reduceMod, Nat.reduceBEq, Int.reduceBEq, Int.reduceBNe, Int.reduceToNat], by simp -implicitDefEqProofs only [go_sem, ↓reduceIte, Nat.reduceEqDiff, Nat.reduceLT, Nat.reduceLeDiff, Nat.reduceAdd, Nat.reduceMul, Nat.reduceSub, reduceCtorEq, Nat.reduceMod, Nat.reduceBEq, Int.reduceBEq, Int.reduceBNe, Int.reduceToNat], by simp -implicitDefEqProofs only [go_sem, ↓reduceIte, Nat.reduceEqDiff, Nat.reduceLT, Nat.reduceLeDiff, Nat.reduceAdd, Nat.reduceMul, Nat.reduceSub, reduceCtorEq, Nat.reduceMod, Nat.reduceBEq, Int.reduceBEq, Int.reduceBNe, Int.reduceToNat]⟩

theorem Scan_spec {p : PV} {n : T} (h : Tr p n) (hs : Sorted n.list) (hn : n.list.length ≤ 1000000) (frm to : ByteArray) (most : Int) (S : Store) : PRet Try.prog 24 [p, .str frm, .str to, .int .i64 most] S (.sl .tail 2 (encPs (scanL frm to most n.list []))) := by
  intro K hK
  refine pcalls_of (C := C) (fun d => d == 8) (fun _ => false) Try.func24 rfl rfl (by simp [Try.f24]) ?_
  have hp : p.bare = p := by rcases h with ⟨rfl, rfl⟩ | rfl <;> rfl
  simp -implicitDefEqProofs only [go_sem, ↓reduceIte, Nat.reduceEqDiff, Nat.reduceLT, Nat.reduceLeDiff, Nat.reduceAdd, Nat.reduceMul, Nat.reduceSub, reduceCtorEq, Nat.reduceMod, Nat.reduceBEq, Int.reduceBEq, Int.reduceBNe, Int.reduceToNat, Try.f24, hp]
  refine top_spec h _ _ ?_
  simp -implicitDefEqProofs only [go_sem, ↓reduceIte, Nat.reduceEqDiff, Nat.reduceLT, Nat.reduceLeDiff, Nat.reduceAdd, Nat.reduceMul, Nat.reduceSub, reduceCtorEq, Nat.reduceMod, Nat.reduceBEq, Int.reduceBEq, Int.reduceBNe, Int.reduceToNat]
  refine scan_spec frm to most n [] hs (by simp; omega) _ _ ?_
  simp -implicitDefEqProofs only [go_sem, ↓reduceIte, Nat.reduceEqDiff, Nat.reduceLT, Nat.reduceLeDiff, Nat.reduceAdd, Nat.reduceMul, Nat.reduceSub, reduceCtorEq, Nat.reduceMod, Nat.reduceBEq, Int.reduceBEq, Int.reduceBNe, Int.reduceToNat]
  exact ⟨S, fun _ _ h => h, hK⟩
theorem scan_all : ∀ (L out : List Pr) (most : Int), (out.length : Int) + L.length ≤ most → scanL ⟨#[]⟩ ⟨#[]⟩ most L out = out ++ L
  | [], out, _, _ => by simp [scanL]
  | p :: L, out, most, h => by
    have hl : lt p.1 ⟨#[]⟩ = false := by
      unfold lt
      have h0 : (ByteArray.mk #[]).toList = [] := by rw [ByteArray.toList_eq]
      rw [h0]
      cases p.1.toList <;> rfl
    have : scanStep ⟨#[]⟩ ⟨#[]⟩ most out p = out ++ [p] := by
      unfold scanStep
      simp only [List.length_cons] at h
      rw [if_pos (by rw [hl]; simp [inside, same_refl]; omega)]
    show scanL ⟨#[]⟩ ⟨#[]⟩ most L (scanStep ⟨#[]⟩ ⟨#[]⟩ most out p) = out ++ p :: L
    rw [this, scan_all L (out ++ [p]) most (by simp only [List.length_append, List.length_cons, List.length_nil] at h ⊢; omega)]
    simp
theorem All_spec {p : PV} {n : T} (h : Tr p n) (ho : Ok n) (hs : Sorted n.list) (hn : n.list.length ≤ 1000000) (S : Store) : PRet Try.prog 21 [p] S (.sl .tail 2 (encPs n.list)) := by
  intro K hK
  refine pcalls_of (C := C) (fun d => d == 2) (fun _ => false) Try.func21 rfl rfl (by simp [Try.f21]) ?_
  have hp : p.bare = p := by rcases h with ⟨rfl, rfl⟩ | rfl <;> rfl
  simp -implicitDefEqProofs only [go_sem, ↓reduceIte, Nat.reduceEqDiff, Nat.reduceLT, Nat.reduceLeDiff, Nat.reduceAdd, Nat.reduceMul, Nat.reduceSub, reduceCtorEq, Nat.reduceMod, Nat.reduceBEq, Int.reduceBEq, Int.reduceBNe, Int.reduceToNat, Try.f21, hp]
  refine len_spec h _ _ ?_
  simp -implicitDefEqProofs only [go_sem, ↓reduceIte, Nat.reduceEqDiff, Nat.reduceLT, Nat.reduceLeDiff, Nat.reduceAdd, Nat.reduceMul, Nat.reduceSub, reduceCtorEq, Nat.reduceMod, Nat.reduceBEq, Int.reduceBEq, Int.reduceBNe, Int.reduceToNat, hp]
  refine Scan_spec h hs hn ⟨#[]⟩ ⟨#[]⟩ n.siz _ _ ?_
  rw [scan_all _ _ _ (by rw [(ok_size n ho).1]; simp)]
  simp -implicitDefEqProofs only [go_sem, ↓reduceIte, Nat.reduceEqDiff, Nat.reduceLT, Nat.reduceLeDiff, Nat.reduceAdd, Nat.reduceMul, Nat.reduceSub, reduceCtorEq, Nat.reduceMod, Nat.reduceBEq, Int.reduceBEq, Int.reduceBNe, Int.reduceToNat]
  exact ⟨S, fun _ _ h => h, hK⟩
end Go.Proofs.Ytmedhhjbknnfkaa.V
