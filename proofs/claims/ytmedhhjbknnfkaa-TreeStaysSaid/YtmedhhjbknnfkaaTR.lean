/- Trees: the examples. -/
import Derived.Test.YtmedhhjbknnfkaaTQ
set_option linter.unusedVariables false
set_option linter.unusedSimpArgs false
namespace Go.Proofs.Ytmedhhjbknnfkaa.V
open Go Go.VL

theorem lt_data (a b : ByteArray) : lt a b = Op.bytesLess a.data.toList b.data.toList := by unfold lt; rw [ByteArray.toList_eq, ByteArray.toList_eq]
theorem lt_ab : lt ⟨#[97]⟩ ⟨#[98]⟩ = true := by rw [lt_data]; rfl
theorem lt_ba : lt ⟨#[98]⟩ ⟨#[97]⟩ = false := by rw [lt_data]; rfl
theorem lt_aaa : lt ⟨#[97]⟩ ⟨#[97, 97]⟩ = true := by rw [lt_data]; rfl
theorem lt_aaa' : lt ⟨#[97, 97]⟩ ⟨#[97]⟩ = false := by rw [lt_data]; rfl
theorem lt_baa : lt ⟨#[98]⟩ ⟨#[97, 97]⟩ = false := by rw [lt_data]; rfl
theorem lt_aab : lt ⟨#[97, 97]⟩ ⟨#[98]⟩ = true := by rw [lt_data]; rfl
theorem lt_34 : lt ⟨#[51]⟩ ⟨#[52]⟩ = true := by rw [lt_data]; rfl
theorem ofL1 : ofL [(⟨#[98]⟩, ⟨#[49]⟩), (⟨#[97]⟩, ⟨#[50]⟩), (⟨#[98]⟩, ⟨#[51]⟩)] = [(⟨#[97]⟩, ⟨#[50]⟩), (⟨#[98]⟩, ⟨#[51]⟩)] := by
  simp [ofL, putL, below, above, lt_ab, lt_ba, lt_irrefl]
theorem ofL2 : ofL [(⟨#[98]⟩, ⟨#[52]⟩)] = [(⟨#[98]⟩, ⟨#[52]⟩)] := by simp [ofL, putL, below, above]
theorem ev1 : evL [(⟨#[97]⟩, ⟨#[50]⟩), (⟨#[98]⟩, ⟨#[51]⟩)] [(⟨#[98]⟩, ⟨#[52]⟩)] = [⟨⟨#[97]⟩, true, ⟨#[50]⟩, false, ⟨#[]⟩⟩, ⟨⟨#[98]⟩, true, ⟨#[51]⟩, true, ⟨#[52]⟩⟩] := by
  have s1 : same ⟨#[98]⟩ ⟨#[97]⟩ = false := same_gt lt_ab
  have s2 : same ⟨#[52]⟩ ⟨#[51]⟩ = false := same_gt lt_34
  simp [evL, evMid, below, above, look, lt_ab, lt_ba, lt_irrefl, same_refl, s1, s2]
theorem floor1 : floorR [(⟨#[97]⟩, ⟨#[50]⟩), (⟨#[98]⟩, ⟨#[51]⟩)] ⟨#[97, 97]⟩ = some (⟨#[97]⟩, ⟨#[50]⟩) := by
  have s1 : same ⟨#[97]⟩ ⟨#[97, 97]⟩ = false := same_lt lt_aaa
  have s2 : same ⟨#[98]⟩ ⟨#[97, 97]⟩ = false := same_gt lt_aab
  simp [floorR, look, below, s1, s2, lt_aaa, lt_baa, atL]
theorem rank1 : (below ⟨#[98]⟩ [(⟨#[97]⟩, ⟨#[50]⟩), (⟨#[98]⟩, ⟨#[51]⟩)]).length = 1 := by
  simp [below, lt_ab, lt_irrefl]

theorem awake_spec (S : Store) : PRet Try.prog 16 [] S (.bool true) := by
  intro K hK
  refine pcalls_of (C := C) (fun _ => false) (fun _ => false) Try.func16 rfl rfl (by simp [Try.f16]) ?_
  simp -implicitDefEqProofs only [go_sem, ↓reduceIte, Nat.reduceEqDiff, Nat.reduceLT, Nat.reduceLeDiff, Nat.reduceAdd, Nat.reduceMul, Nat.reduceSub, reduceCtorEq, Nat.reduceMod, Nat.reduceBEq, Int.reduceBEq, Int.reduceBNe, Int.reduceToNat, Try.f16]
  refine pair_spec _ _ _ _ ?_
  simp -implicitDefEqProofs only [go_sem, ↓reduceIte, Nat.reduceEqDiff, Nat.reduceLT, Nat.reduceLeDiff, Nat.reduceAdd, Nat.reduceMul, Nat.reduceSub, reduceCtorEq, Nat.reduceMod, Nat.reduceBEq, Int.reduceBEq, Int.reduceBNe, Int.reduceToNat]
  refine pair_spec _ _ _ _ ?_
  simp -implicitDefEqProofs only [go_sem, ↓reduceIte, Nat.reduceEqDiff, Nat.reduceLT, Nat.reduceLeDiff, Nat.reduceAdd, Nat.reduceMul, Nat.reduceSub, reduceCtorEq, Nat.reduceMod, Nat.reduceBEq, Int.reduceBEq, Int.reduceBNe, Int.reduceToNat]
  refine pair_spec _ _ _ _ ?_
  simp -implicitDefEqProofs only [go_sem, ↓reduceIte, Nat.reduceEqDiff, Nat.reduceLT, Nat.reduceLeDiff, Nat.reduceAdd, Nat.reduceMul, Nat.reduceSub, reduceCtorEq, Nat.reduceMod, Nat.reduceBEq, Int.reduceBEq, Int.reduceBNe, Int.reduceToNat]
  refine Of_calls [(⟨#[98]⟩, ⟨#[49]⟩), (⟨#[97]⟩, ⟨#[50]⟩), (⟨#[98]⟩, ⟨#[51]⟩)] (by simp) _ _ fun t ot lt0 => ?_
  have st := (ofL_ok [(⟨#[98]⟩, ⟨#[49]⟩), (⟨#[97]⟩, ⟨#[50]⟩), (⟨#[98]⟩, ⟨#[51]⟩)]).1
  rw [← lt0] at st
  rw [ofL1] at lt0
  have nt : t.list.length ≤ 1000000 := by rw [lt0]; simp
  simp -implicitDefEqProofs only [go_sem, ↓reduceIte, Nat.reduceEqDiff, Nat.reduceLT, Nat.reduceLeDiff, Nat.reduceAdd, Nat.reduceMul, Nat.reduceSub, reduceCtorEq, Nat.reduceMod, Nat.reduceBEq, Int.reduceBEq, Int.reduceBNe, Int.reduceToNat]
  refine Floor_spec (Tr.mk t) ot st nt ⟨#[97, 97]⟩ _ _ ?_
  rw [lt0, floor1, encOp]
  simp -implicitDefEqProofs only [go_sem, ↓reduceIte, Nat.reduceEqDiff, Nat.reduceLT, Nat.reduceLeDiff, Nat.reduceAdd, Nat.reduceMul, Nat.reduceSub, reduceCtorEq, Nat.reduceMod, Nat.reduceBEq, Int.reduceBEq, Int.reduceBNe, Int.reduceToNat]
  refine pair_spec _ _ _ _ ?_
  simp -implicitDefEqProofs only [go_sem, ↓reduceIte, Nat.reduceEqDiff, Nat.reduceLT, Nat.reduceLeDiff, Nat.reduceAdd, Nat.reduceMul, Nat.reduceSub, reduceCtorEq, Nat.reduceMod, Nat.reduceBEq, Int.reduceBEq, Int.reduceBNe, Int.reduceToNat]
  refine Of_calls [(⟨#[98]⟩, ⟨#[52]⟩)] (by simp) _ _ fun u ou lu => ?_
  have su := (ofL_ok [(⟨#[98]⟩, ⟨#[52]⟩)]).1
  rw [← lu] at su
  rw [ofL2] at lu
  have nu : u.list.length ≤ 1000000 := by rw [lu]; simp
  simp -implicitDefEqProofs only [go_sem, ↓reduceIte, Nat.reduceEqDiff, Nat.reduceLT, Nat.reduceLeDiff, Nat.reduceAdd, Nat.reduceMul, Nat.reduceSub, reduceCtorEq, Nat.reduceMod, Nat.reduceBEq, Int.reduceBEq, Int.reduceBNe, Int.reduceToNat]
  refine Diff_spec (Tr.mk t) (Tr.mk u) st ou su nt nu _ _ ?_
  rw [lt0, lu, ev1]
  simp -implicitDefEqProofs only [go_sem, ↓reduceIte, Nat.reduceEqDiff, Nat.reduceLT, Nat.reduceLeDiff, Nat.reduceAdd, Nat.reduceMul, Nat.reduceSub, reduceCtorEq, Nat.reduceMod, Nat.reduceBEq, Int.reduceBEq, Int.reduceBNe, Int.reduceToNat]
  refine vwp_draw (by decide +kernel) ?_
  simp -implicitDefEqProofs only [go_sem, ↓reduceIte, Nat.reduceEqDiff, Nat.reduceLT, Nat.reduceLeDiff, Nat.reduceAdd, Nat.reduceMul, Nat.reduceSub, reduceCtorEq, Nat.reduceMod, Nat.reduceBEq, Int.reduceBEq, Int.reduceBNe, Int.reduceToNat]
  refine q_call _ (by simp -implicitDefEqProofs only [go_sem, ↓reduceIte, Nat.reduceEqDiff, Nat.reduceLT, Nat.reduceLeDiff, Nat.reduceAdd, Nat.reduceMul, Nat.reduceSub, reduceCtorEq, Nat.reduceMod, Nat.reduceBEq, Int.reduceBEq, Int.reduceBNe, Int.reduceToNat]; exact All_spec (Tr.mk t) ot st nt _) (by decide) rfl ?_
  rw [lt0]
  refine q_call _ (by simp -implicitDefEqProofs only [go_sem, ↓reduceIte, Nat.reduceEqDiff, Nat.reduceLT, Nat.reduceLeDiff, Nat.reduceAdd, Nat.reduceMul, Nat.reduceSub, reduceCtorEq, Nat.reduceMod, Nat.reduceBEq, Int.reduceBEq, Int.reduceBNe, Int.reduceToNat]; exact pair_spec _ _ _) (by decide) rfl ?_
  refine q_call _ (by simp -implicitDefEqProofs only [go_sem, ↓reduceIte, Nat.reduceEqDiff, Nat.reduceLT, Nat.reduceLeDiff, Nat.reduceAdd, Nat.reduceMul, Nat.reduceSub, reduceCtorEq, Nat.reduceMod, Nat.reduceBEq, Int.reduceBEq, Int.reduceBNe, Int.reduceToNat]; exact pair_spec _ _ _) (by decide) rfl ?_
  simp -implicitDefEqProofs only [go_sem, ↓reduceIte, Nat.reduceEqDiff, Nat.reduceLT, Nat.reduceLeDiff, Nat.reduceAdd, Nat.reduceMul, Nat.reduceSub, reduceCtorEq, Nat.reduceMod, Nat.reduceBEq, Int.reduceBEq, Int.reduceBNe, Int.reduceToNat]
  refine q_call _ (by simp -implicitDefEqProofs only [go_sem, ↓reduceIte, Nat.reduceEqDiff, Nat.reduceLT, Nat.reduceLeDiff, Nat.reduceAdd, Nat.reduceMul, Nat.reduceSub, reduceCtorEq, Nat.reduceMod, Nat.reduceBEq, Int.reduceBEq, Int.reduceBNe, Int.reduceToNat]; exact EqualP_refl [(⟨#[97]⟩, ⟨#[50]⟩), (⟨#[98]⟩, ⟨#[51]⟩)] (by simp) _) (by decide) rfl ?_
  simp -implicitDefEqProofs only [go_sem, ↓reduceIte, Nat.reduceEqDiff, Nat.reduceLT, Nat.reduceLeDiff, Nat.reduceAdd, Nat.reduceMul, Nat.reduceSub, reduceCtorEq, Nat.reduceMod, Nat.reduceBEq, Int.reduceBEq, Int.reduceBNe, Int.reduceToNat]
  refine q_call _ (by simp -implicitDefEqProofs only [go_sem, ↓reduceIte, Nat.reduceEqDiff, Nat.reduceLT, Nat.reduceLeDiff, Nat.reduceAdd, Nat.reduceMul, Nat.reduceSub, reduceCtorEq, Nat.reduceMod, Nat.reduceBEq, Int.reduceBEq, Int.reduceBNe, Int.reduceToNat]; exact Rank_spec (Tr.mk t) ot st nt ⟨#[98]⟩ _) (by decide) rfl ?_
  rw [lt0, rank1]
  have h11 : (((1 : Nat) : Int) == 1) = true := rfl
  simp -implicitDefEqProofs only [go_sem, ↓reduceIte, Nat.reduceEqDiff, Nat.reduceLT, Nat.reduceLeDiff, Nat.reduceAdd, Nat.reduceMul, Nat.reduceSub, reduceCtorEq, Nat.reduceMod, Nat.reduceBEq, Int.reduceBEq, Int.reduceBNe, Int.reduceToNat, h11, Bool.and_self]
  refine q_call _ (by simp -implicitDefEqProofs only [go_sem, ↓reduceIte, Nat.reduceEqDiff, Nat.reduceLT, Nat.reduceLeDiff, Nat.reduceAdd, Nat.reduceMul, Nat.reduceSub, reduceCtorEq, Nat.reduceMod, Nat.reduceBEq, Int.reduceBEq, Int.reduceBNe, Int.reduceToNat]; exact pair_spec _ _ _) (by decide) rfl ?_
  simp -implicitDefEqProofs only [go_sem, ↓reduceIte, Nat.reduceEqDiff, Nat.reduceLT, Nat.reduceLeDiff, Nat.reduceAdd, Nat.reduceMul, Nat.reduceSub, reduceCtorEq, Nat.reduceMod, Nat.reduceBEq, Int.reduceBEq, Int.reduceBNe, Int.reduceToNat, Bool.and_self]
  refine q_call _ (by simp -implicitDefEqProofs only [go_sem, ↓reduceIte, Nat.reduceEqDiff, Nat.reduceLT, Nat.reduceLeDiff, Nat.reduceAdd, Nat.reduceMul, Nat.reduceSub, reduceCtorEq, Nat.reduceMod, Nat.reduceBEq, Int.reduceBEq, Int.reduceBNe, Int.reduceToNat]; exact EqualE_refl [⟨⟨#[97]⟩, true, ⟨#[50]⟩, false, ⟨#[]⟩⟩, ⟨⟨#[98]⟩, true, ⟨#[51]⟩, true, ⟨#[52]⟩⟩] (by simp) _) (by decide) rfl ?_
  simp -implicitDefEqProofs only [go_sem, ↓reduceIte, Nat.reduceEqDiff, Nat.reduceLT, Nat.reduceLeDiff, Nat.reduceAdd, Nat.reduceMul, Nat.reduceSub, reduceCtorEq, Nat.reduceMod, Nat.reduceBEq, Int.reduceBEq, Int.reduceBNe, Int.reduceToNat]
  exact ⟨S, fun _ _ h => h, hK⟩
end Go.Proofs.Ytmedhhjbknnfkaa.V
