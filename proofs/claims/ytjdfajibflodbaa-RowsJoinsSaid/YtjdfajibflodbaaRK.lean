/- Rows: logs of terms, and the examples. -/
import Derived.Test.YtjdfajibflodbaaRJ
set_option linter.unusedVariables false
set_option linter.unusedSimpArgs false
namespace Go.Proofs.Ytjdfajibflodbaa.V
open Go Go.VL

def tms : Int → List Int → List Ent
  | _, [] => []
  | i, t :: l => ⟨i, t, []⟩ :: tms (i + 1) l
theorem tms_snoc : ∀ (l : List Int) (i t : Int), tms i (l ++ [t]) = tms i l ++ [⟨i + l.length, t, []⟩]
  | [], i, t => by simp [tms]
  | x :: l, i, t => by
    have h : i + 1 + (l.length : Int) = i + ((l.length + 1 : Nat) : Int) := by omega
    simp only [List.cons_append, tms, tms_snoc l, List.length_cons, h]
theorem tms_len : ∀ (l : List Int) (i : Int), (tms i l).length = l.length
  | [], _ => rfl
  | _ :: l, i => by simp [tms, tms_len l]
def encI (l : List Int) : List (List PV) := l.map fun t => [.int .i64 t]
@[go_sem] theorem len_encI (l : List Int) : (encI l).length = l.length := by simp [encI]
theorem getD_encI {l : List Int} {k : Nat} {e : Int} (h : l[k]? = some e) : (encI l).getD k [] = [.int .i64 e] := by
  simp [encI, List.getD_eq_getElem?_getD, h]

theorem terms_spec (l : List Int) (hl : l.length ≤ 1000) (S : Store) : PRet Try.prog 32 [.sl .no 1 (encI l)] S (encG ⟨0, 0, tms 1 l⟩) := by
  intro K hK
  refine pcalls_of (C := C) (fun d => d == 14 || d == 20) (fun d => d == 3) Try.func32 rfl rfl (by simp [Try.f32]) ?_
  simp -implicitDefEqProofs only [go_sem, ↓reduceIte, Nat.reduceEqDiff, Nat.reduceLT, Nat.reduceLeDiff, Nat.reduceAdd, Nat.reduceMul, Nat.reduceSub, reduceCtorEq, Nat.reduceMod, Nat.reduceBEq, Int.reduceBEq, Int.reduceBNe, Int.reduceToNat, Try.f32]
  intro id hid
  refine vwp_loop (fun e S' => ∃ k : Nat, S' = S.set id (some [.int .i64 0, .int .i64 0, .sl .tail 3 (encL (tms 1 (l.take k)))]) ∧ k ≤ l.length ∧ e 6 = .sl .no 1 (encI l) ∧ e 7 = .int .i64 l.length ∧ e 8 = .int .i64 k ∧ e 3 = .ref id 0 ∧ e 2 = .fresh 3) (fun e _ => match e 8 with | .int _ k => l.length - k.toNat | _ => 0) ?_ ?_
  · exact ⟨0, rfl, Nat.zero_le _, rfl, rfl, rfl, rfl, rfl⟩
  · rintro e S' ⟨k, rfl, hk, h6, h7, h8, h3, h2⟩
    simp -implicitDefEqProofs only [go_sem, ↓reduceIte, Nat.reduceEqDiff, Nat.reduceLT, Nat.reduceLeDiff, Nat.reduceAdd, Nat.reduceMul, Nat.reduceSub, reduceCtorEq, Nat.reduceMod, Nat.reduceBEq, Int.reduceBEq, Int.reduceBNe, Int.reduceToNat, h6, h7, h8]
    by_cases hlt : k < l.length
    · obtain ⟨x, hx⟩ : ∃ x, l[k]? = some x := ⟨_, List.getElem?_eq_getElem hlt⟩
      have hin : (0 : Int) ≤ k ∧ (k : Int) < l.length := by omega
      have hk1 : IntKind.i64.wrap ((k : Int) + 1) = ((k + 1 : Nat) : Int) := wrap64 (by omega) (by omega)
      have hln : (l.take k).length = k := by rw [List.length_take]; omega
      have hap : (k + 1) * 40 ≤ 140737488355328 ∧ k + 1 ≤ 140737488355328 := by omega
      simp -implicitDefEqProofs only [go_sem, ↓reduceIte, Nat.reduceEqDiff, Nat.reduceLT, Nat.reduceLeDiff, Nat.reduceAdd, Nat.reduceMul, Nat.reduceSub, reduceCtorEq, Nat.reduceMod, Nat.reduceBEq, Int.reduceBEq, Int.reduceBNe, Int.reduceToNat, hin, h6, h7, h8, h3, getD_encI hx, hk1, tms_len, hln]
      have hst : encL (tms 1 (l.take k)) ++ [[.int .i64 ((k + 1 : Nat) : Int), .int .i64 x, .sl .no 1 []]] = encL (tms 1 (l.take (k + 1))) := by
        rw [List.take_add_one, hx]
        simp only [Option.toList_some, tms_snoc, encL_app, hln]
        have : (1 : Int) + (k : Int) = ((k + 1 : Nat) : Int) := by omega
        rw [this]
        rfl
      refine ⟨by omega, _, fun _ _ h => h, ⟨k + 1, ?_, hlt, ?_, ?_, ?_, ?_, ?_⟩, ?_⟩
      · rw [← hst]
      · simp -implicitDefEqProofs only [go_sem, ↓reduceIte, Nat.reduceEqDiff, Nat.reduceLT, Nat.reduceLeDiff, Nat.reduceAdd, Nat.reduceMul, Nat.reduceSub, reduceCtorEq, Nat.reduceMod, Nat.reduceBEq, Int.reduceBEq, Int.reduceBNe, Int.reduceToNat, h6]
      · simp -implicitDefEqProofs only [go_sem, ↓reduceIte, Nat.reduceEqDiff, Nat.reduceLT, Nat.reduceLeDiff, Nat.reduceAdd, Nat.reduceMul, Nat.reduceSub, reduceCtorEq, Nat.reduceMod, Nat.reduceBEq, Int.reduceBEq, Int.reduceBNe, Int.reduceToNat, h7]
      · simp -implicitDefEqProofs only [go_sem, ↓reduceIte, Nat.reduceEqDiff, Nat.reduceLT, Nat.reduceLeDiff, Nat.reduceAdd, Nat.reduceMul, Nat.reduceSub, reduceCtorEq, Nat.reduceMod, Nat.reduceBEq, Int.reduceBEq, Int.reduceBNe, Int.reduceToNat]
      · simp -implicitDefEqProofs only [go_sem, ↓reduceIte, Nat.reduceEqDiff, Nat.reduceLT, Nat.reduceLeDiff, Nat.reduceAdd, Nat.reduceMul, Nat.reduceSub, reduceCtorEq, Nat.reduceMod, Nat.reduceBEq, Int.reduceBEq, Int.reduceBNe, Int.reduceToNat, h3]
      · simp -implicitDefEqProofs only [go_sem, ↓reduceIte, Nat.reduceEqDiff, Nat.reduceLT, Nat.reduceLeDiff, Nat.reduceAdd, Nat.reduceMul, Nat.reduceSub, reduceCtorEq, Nat.reduceMod, Nat.reduceBEq, Int.reduceBEq, Int.reduceBNe, Int.reduceToNat, h2]
      · simp -implicitDefEqProofs only [go_sem, ↓reduceIte, Nat.reduceEqDiff, Nat.reduceLT, Nat.reduceLeDiff, Nat.reduceAdd, Nat.reduceMul, Nat.reduceSub, reduceCtorEq, Nat.reduceMod, Nat.reduceBEq, Int.reduceBEq, Int.reduceBNe, Int.reduceToNat]
        omega
    · have hc : ¬ (k : Int) < l.length := by omega
      simp -implicitDefEqProofs only [go_sem, ↓reduceIte, Nat.reduceEqDiff, Nat.reduceLT, Nat.reduceLeDiff, Nat.reduceAdd, Nat.reduceMul, Nat.reduceSub, reduceCtorEq, Nat.reduceMod, Nat.reduceBEq, Int.reduceBEq, Int.reduceBNe, Int.reduceToNat, hc, h3, h2]
      rw [List.take_of_length_le (by omega)]
      exact ⟨S, set_drop hid (fun _ _ h => h), hK⟩

def L0 : Lg := ⟨0, 0, [⟨1, 1, []⟩, ⟨2, 1, []⟩, ⟨3, 2, []⟩]⟩

set_option maxRecDepth 100000 in
theorem awake_spec (S : Store) : PRet Try.prog 12 [] S (.bool true) := by
  intro K hK
  refine pcalls_of (C := C) (fun _ => false) (fun _ => false) Try.func12 rfl rfl (by simp [Try.f12]) ?_
  simp -implicitDefEqProofs only [go_sem, ↓reduceIte, Nat.reduceEqDiff, Nat.reduceLT, Nat.reduceLeDiff, Nat.reduceAdd, Nat.reduceMul, Nat.reduceSub, reduceCtorEq, Nat.reduceMod, Nat.reduceBEq, Int.reduceBEq, Int.reduceBNe, Int.reduceToNat, Try.f12]
  refine terms_spec [1, 1, 2] (by decide) _ _ ?_
  have hg : encG ⟨0, 0, tms 1 [1, 1, 2]⟩ = .agg [.int .i64 0, .int .i64 0, .sl .no 3 (encL L0.rows)] := rfl
  rw [hg]
  simp -implicitDefEqProofs only [go_sem, ↓reduceIte, Nat.reduceEqDiff, Nat.reduceLT, Nat.reduceLeDiff, Nat.reduceAdd, Nat.reduceMul, Nat.reduceSub, reduceCtorEq, Nat.reduceMod, Nat.reduceBEq, Int.reduceBEq, Int.reduceBNe, Int.reduceToNat]
  refine Join_spec L0 2 1 [⟨3, 3, []⟩] (by unfold InR; omega) (by decide) (by decide) _ _ ?_
  have h1 : encJ (joinF L0 2 1 [⟨3, 3, []⟩]) = .tup [.agg [.int .i64 0, .int .i64 0, .sl .no 3 (encL [⟨1, 1, []⟩, ⟨2, 1, []⟩, ⟨3, 3, []⟩])], .int .i64 3, .sl .no 3 (encL [⟨3, 3, []⟩]), .bool true] := by
    rw [show joinF L0 2 1 [⟨3, 3, []⟩] = ⟨⟨0, 0, [⟨1, 1, []⟩, ⟨2, 1, []⟩, ⟨3, 3, []⟩]⟩, 3, [⟨3, 3, []⟩], true⟩ by decide +kernel]
    rfl
  rw [h1]
  simp -implicitDefEqProofs only [go_sem, ↓reduceIte, Nat.reduceEqDiff, Nat.reduceLT, Nat.reduceLeDiff, Nat.reduceAdd, Nat.reduceMul, Nat.reduceSub, reduceCtorEq, Nat.reduceMod, Nat.reduceBEq, Int.reduceBEq, Int.reduceBNe, Int.reduceToNat]
  refine PCalls.ofBare (Join_spec L0 3 1 [] (by unfold InR; omega) (by decide) (by decide) _ _ ?_)
  have h2 : encJ (joinF L0 3 1 []) = .tup [.agg [.int .i64 0, .int .i64 0, .sl .no 3 (encL L0.rows)], .int .i64 0, .sl .no 3 (encL []), .bool false] := by
    rw [show joinF L0 3 1 [] = ⟨L0, 0, [], false⟩ by decide +kernel]
    rfl
  rw [h2]
  simp -implicitDefEqProofs only [go_sem, ↓reduceIte, Nat.reduceEqDiff, Nat.reduceLT, Nat.reduceLeDiff, Nat.reduceAdd, Nat.reduceMul, Nat.reduceSub, reduceCtorEq, Nat.reduceMod, Nat.reduceBEq, Int.reduceBEq, Int.reduceBNe, Int.reduceToNat]
  refine Join_spec L0 1 1 [⟨2, 1, []⟩] (by unfold InR; omega) (by decide) (by decide) _ _ ?_
  have h3 : encJ (joinF L0 1 1 [⟨2, 1, []⟩]) = .tup [.agg [.int .i64 0, .int .i64 0, .sl .no 3 (encL L0.rows)], .int .i64 0, .sl .no 3 (encL []), .bool true] := by
    rw [show joinF L0 1 1 [⟨2, 1, []⟩] = ⟨L0, 0, [], true⟩ by decide +kernel]
    rfl
  rw [h3]
  have hget : (encL [⟨1, 1, []⟩, ⟨2, 1, []⟩, ⟨3, 3, []⟩]).getD 2 [] = [.int .i64 3, .int .i64 3, .sl .no 1 []] := rfl
  have n0 : ((0 : Nat) : Int) = 0 := rfl
  have n1 : ((1 : Nat) : Int) = 1 := rfl
  have n3 : ((3 : Nat) : Int) = 3 := rfl
  simp -implicitDefEqProofs only [go_sem, ↓reduceIte, Nat.reduceEqDiff, Nat.reduceLT, Nat.reduceLeDiff, Nat.reduceAdd, Nat.reduceMul, Nat.reduceSub, reduceCtorEq, Nat.reduceMod, Nat.reduceBEq, Int.reduceBEq, Int.reduceBNe, Int.reduceToNat, hget, n0, n1, n3, Int.reduceLT, Int.reduceLE]
  refine Hint_spec L0 2 (by unfold InR; omega) (by unfold Fit; decide) _ _ ?_
  rw [show (if chk L0 = true then hintF L0 2 else 0) = 1 by decide +kernel]
  simp -implicitDefEqProofs only [go_sem, ↓reduceIte, Nat.reduceEqDiff, Nat.reduceLT, Nat.reduceLeDiff, Nat.reduceAdd, Nat.reduceMul, Nat.reduceSub, reduceCtorEq, Nat.reduceMod, Nat.reduceBEq, Int.reduceBEq, Int.reduceBNe, Int.reduceToNat]
  refine Hint_spec L0 9 (by unfold InR; omega) (by unfold Fit; decide) _ _ ?_
  rw [show (if chk L0 = true then hintF L0 9 else 0) = 4 by decide +kernel]
  simp -implicitDefEqProofs only [go_sem, ↓reduceIte, Nat.reduceEqDiff, Nat.reduceLT, Nat.reduceLeDiff, Nat.reduceAdd, Nat.reduceMul, Nat.reduceSub, reduceCtorEq, Nat.reduceMod, Nat.reduceBEq, Int.reduceBEq, Int.reduceBNe, Int.reduceToNat]
  refine Fresh_spec L0 3 2 (by unfold Fit; decide) _ _ ?_
  rw [show freshF L0 3 2 = true by decide +kernel]
  simp -implicitDefEqProofs only [go_sem, ↓reduceIte, Nat.reduceEqDiff, Nat.reduceLT, Nat.reduceLeDiff, Nat.reduceAdd, Nat.reduceMul, Nat.reduceSub, reduceCtorEq, Nat.reduceMod, Nat.reduceBEq, Int.reduceBEq, Int.reduceBNe, Int.reduceToNat]
  refine Fresh_spec L0 9 1 (by unfold Fit; decide) _ _ ?_
  rw [show freshF L0 9 1 = false by decide +kernel]
  simp -implicitDefEqProofs only [go_sem, ↓reduceIte, Nat.reduceEqDiff, Nat.reduceLT, Nat.reduceLeDiff, Nat.reduceAdd, Nat.reduceMul, Nat.reduceSub, reduceCtorEq, Nat.reduceMod, Nat.reduceBEq, Int.reduceBEq, Int.reduceBNe, Int.reduceToNat]
  refine check_spec ⟨-1, 0, []⟩ (by unfold Fit; decide) _ _ ?_
  rw [show chkN (chk ⟨-1, 0, []⟩) = 120 by decide +kernel]
  simp -implicitDefEqProofs only [go_sem, ↓reduceIte, Nat.reduceEqDiff, Nat.reduceLT, Nat.reduceLeDiff, Nat.reduceAdd, Nat.reduceMul, Nat.reduceSub, reduceCtorEq, Nat.reduceMod, Nat.reduceBEq, Int.reduceBEq, Int.reduceBNe, Int.reduceToNat]
  exact ⟨S, fun _ _ h => h, hK⟩
end Go.Proofs.Ytjdfajibflodbaa.V
