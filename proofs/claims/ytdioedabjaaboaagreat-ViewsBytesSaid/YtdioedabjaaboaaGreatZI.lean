/- Bytes of views: the law. -/
import Derived.Test.YtdioedabjaaboaaGreatZH
import Derived.Test.YtdioedabjaaboaaGreatYJ
import Derived.Test.YtdioedabjaaboaaGreatVLM
set_option linter.unusedVariables false
set_option linter.unusedSimpArgs false
namespace Go.Proofs.YtdioedabjaaboaaGreat.V
open Go Go.VL

theorem short_sum {w : Wv} (hw : FitW w) (h : shortV [⟨0, [], w⟩] = true) : w.name.size + w.field.size + w.of_.size ≤ 140737488400000 := by
 unfold shortV at h
 rw [Bool.and_eq_true, decide_eq_true_eq, decide_eq_true_eq] at h
 have h2 := h.2
 simp only [shortNv] at h2
 rw [if_pos (by decide)] at h2
 unfold costDv at h2
 obtain ⟨f1, f2, f3⟩ := hw
 dsimp only at h2
 omega
set_option maxHeartbeats 8000000 in
theorem vbytes_law (w : Wv) (hw : FitW w) (hk : w.kind.toNat < 9223372036854775808) (b : List UInt8) (S : Store) (K : PV → Store → Prop) (hK : ∀ S', K (.bool true) S') : PCalls Tryz.prog 8 [.agg (encW w), .sl .no 1 (encB b)] S K := by
 refine pcalls_of (C := C) (fun _ => false) (fun d => d == 56) Tryz.func8 rfl rfl (by simp [Tryz.f8]) ?_
 unfold encW
 simp -implicitDefEqProofs only [go_sem, ↓reduceIte, Nat.reduceEqDiff, Nat.reduceLT, Nat.reduceLeDiff, Nat.reduceAdd, Nat.reduceMul, Nat.reduceSub, reduceCtorEq, Nat.reduceMod, Nat.reduceBEq, Int.reduceBEq, Int.reduceBNe, Int.reduceToNat, Tryz.f8]
 refine shortV_spec [⟨0, [], w⟩] _ _ ?_
 cases hs : shortV [⟨0, [], w⟩]
 ·simp -implicitDefEqProofs only [go_sem, ↓reduceIte, Nat.reduceEqDiff, Nat.reduceLT, Nat.reduceLeDiff, Nat.reduceAdd, Nat.reduceMul, Nat.reduceSub, reduceCtorEq, Nat.reduceMod, Nat.reduceBEq, Int.reduceBEq, Int.reduceBNe, Int.reduceToNat, Bool.not_false]
  refine aw_calls _ _ ?_
  intro S'
  simp -implicitDefEqProofs only [go_sem, ↓reduceIte, Nat.reduceEqDiff, Nat.reduceLT, Nat.reduceLeDiff, Nat.reduceAdd, Nat.reduceMul, Nat.reduceSub, reduceCtorEq, Nat.reduceMod, Nat.reduceBEq, Int.reduceBEq, Int.reduceBNe, Int.reduceToNat]
  exact ⟨S', fun _ _ h => h, hK S'⟩
 have hsum := short_sum hw hs
 by_cases hb : (16384 : Int) < (b.length : Int)
 ·simp -implicitDefEqProofs only [go_sem, ↓reduceIte, Nat.reduceEqDiff, Nat.reduceLT, Nat.reduceLeDiff, Nat.reduceAdd, Nat.reduceMul, Nat.reduceSub, reduceCtorEq, Nat.reduceMod, Nat.reduceBEq, Int.reduceBEq, Int.reduceBNe, Int.reduceToNat, Bool.not_true, hb]
  refine aw_calls _ _ ?_
  intro S'
  simp -implicitDefEqProofs only [go_sem, ↓reduceIte, Nat.reduceEqDiff, Nat.reduceLT, Nat.reduceLeDiff, Nat.reduceAdd, Nat.reduceMul, Nat.reduceSub, reduceCtorEq, Nat.reduceMod, Nat.reduceBEq, Int.reduceBEq, Int.reduceBNe, Int.reduceToNat]
  exact ⟨S', fun _ _ h => h, hK S'⟩
 simp -implicitDefEqProofs only [go_sem, ↓reduceIte, Nat.reduceEqDiff, Nat.reduceLT, Nat.reduceLeDiff, Nat.reduceAdd, Nat.reduceMul, Nat.reduceSub, reduceCtorEq, Nat.reduceMod, Nat.reduceBEq, Int.reduceBEq, Int.reduceBNe, Int.reduceToNat, Bool.not_true, Bool.false_eq_true, hb]
 refine vwp_draw (by decide +kernel) ?_
 simp -implicitDefEqProofs only [go_sem, ↓reduceIte, Nat.reduceEqDiff, Nat.reduceLT, Nat.reduceLeDiff, Nat.reduceAdd, Nat.reduceMul, Nat.reduceSub, reduceCtorEq, Nat.reduceMod, Nat.reduceBEq, Int.reduceBEq, Int.reduceBNe, Int.reduceToNat]
 refine q_call _ (by simp -implicitDefEqProofs only [go_sem, ↓reduceIte, Nat.reduceEqDiff]; exact wPut_spec b w hk (by omega) _) (by decide) rfl ?_
 simp -implicitDefEqProofs only [go_sem, ↓reduceIte, Nat.reduceEqDiff, Nat.reduceLT, Nat.reduceLeDiff, Nat.reduceAdd, Nat.reduceMul, Nat.reduceSub, reduceCtorEq, Nat.reduceMod, Nat.reduceBEq, Int.reduceBEq, Int.reduceBNe, Int.reduceToNat, pbs_encB, bsOf_str]
 refine q_call _ (by simp -implicitDefEqProofs only [go_sem, ↓reduceIte, Nat.reduceEqDiff]; exact rPut_spec b w hk (by omega) _) (by decide) rfl ?_
 simp -implicitDefEqProofs only [go_sem, ↓reduceIte, Nat.reduceEqDiff, Nat.reduceLT, Nat.reduceLeDiff, Nat.reduceAdd, Nat.reduceMul, Nat.reduceSub, reduceCtorEq, Nat.reduceMod, Nat.reduceBEq, Int.reduceBEq, Int.reduceBNe, Int.reduceToNat, pbs_encB, bsOf_str, same_refl, Bool.not_true, Bool.false_eq_true]
 refine VCheck_spec w _ _ ?_
 have hbl : b.length ≤ 16384 := by omega
 have hee : ∀ x : Int, (x == x) = true := fun x => by simp
 have okb : (⟨b, 0, 0⟩ : Rd).Ok := ⟨Nat.zero_le _, by show b.length ≤ 900000; omega⟩
 by_cases h0 : vcheck w = 0
 case' pos =>
  have d0 : (vcheck w == 0) = true := by rw [h0]; rfl
  obtain ⟨z1, z2, z3, z4, z5⟩ := vcheck_size h0
  have hvl : (viewB w).length ≤ 200 := by
   have h1 := numB_len hk
   have h2 := textB_le w.name (by omega)
   have h3 := textB_le w.field (by omega)
   have h4 := textB_le w.of_ (by omega)
   unfold viewB
   simp only [List.length_append]
   omega
  simp -implicitDefEqProofs only [go_sem, ↓reduceIte, Nat.reduceEqDiff, Nat.reduceLT, Nat.reduceLeDiff, Nat.reduceAdd, Nat.reduceMul, Nat.reduceSub, reduceCtorEq, Nat.reduceMod, Nat.reduceBEq, Int.reduceBEq, Int.reduceBNe, Int.reduceToNat, d0]
  refine PCalls.unflag ((wPut_spec [] w hk (by simp only [List.length_nil]; omega) _) _ ?_)
  rw [List.nil_append]
  have a1 := small1 (k := (viewB w).length + b.length) (by omega)
  simp -implicitDefEqProofs only [go_sem, ↓reduceIte, Nat.reduceEqDiff, Nat.reduceLT, Nat.reduceLeDiff, Nat.reduceAdd, Nat.reduceMul, Nat.reduceSub, reduceCtorEq, Nat.reduceMod, Nat.reduceBEq, Int.reduceBEq, Int.reduceBNe, Int.reduceToNat, a1, encB_app]
  refine Read_calls (viewB w ++ b) (by rw [List.length_append]; omega) _ ?_
  intro id hid
  have hs1 := set_at S id (some (wcells ⟨viewB w ++ b, 0, 0⟩))
  have ok1 : (⟨viewB w ++ b, 0, 0⟩ : Rd).Ok := ⟨Nat.zero_le _, by show (viewB w ++ b).length ≤ 900000; rw [List.length_append]; omega⟩
  simp -implicitDefEqProofs only [go_sem, ↓reduceIte, Nat.reduceEqDiff, Nat.reduceLT, Nat.reduceLeDiff, Nat.reduceAdd, Nat.reduceMul, Nat.reduceSub, reduceCtorEq, Nat.reduceMod, Nat.reduceBEq, Int.reduceBEq, Int.reduceBNe, Int.reduceToNat]
  refine vwp_mix (n := 7) (fun k => k == 1) (fun k => k == 2) [0, 2, 1, 3, 4, 5, 6, 7, 8, 9, 10, 11, 12, 13, 14, 15] (by decide +kernel) ?_
  simp -implicitDefEqProofs only [go_sem, ↓reduceIte, Nat.reduceEqDiff, Nat.reduceLT, Nat.reduceLeDiff, Nat.reduceAdd, Nat.reduceMul, Nat.reduceSub, reduceCtorEq, Nat.reduceMod, Nat.reduceBEq, Int.reduceBEq, Int.reduceBNe, Int.reduceToNat]
  refine wGet_calls hs1 ok1 _ ?_
  rw [set_set, getV_put h0 b]
  have hs2 := set_at S id (some (wcells ⟨viewB w ++ b, (viewB w).length, 0⟩))
  have ok2 : (⟨viewB w ++ b, (viewB w).length, 0⟩ : Rd).Ok := ⟨by show (viewB w).length ≤ (viewB w ++ b).length; rw [List.length_append]; omega, by show (viewB w ++ b).length ≤ 900000; rw [List.length_append]; omega⟩
  have hlf : ((((viewB w ++ b).length - (viewB w).length : Nat) : Int) != (b.length : Int)) = false := by
   rw [List.length_append, Nat.add_sub_cancel_left]; exact neI _
  dsimp only at hs2 ⊢
  generalize S.set id (some (wcells ⟨viewB w ++ b, (viewB w).length, 0⟩)) = S1 at hs2 ⊢
  unfold encW
  simp -implicitDefEqProofs only [go_sem, ↓reduceIte, Nat.reduceEqDiff, Nat.reduceLT, Nat.reduceLeDiff, Nat.reduceAdd, Nat.reduceMul, Nat.reduceSub, reduceCtorEq, Nat.reduceMod, Nat.reduceBEq, Int.reduceBEq, Int.reduceBNe, Int.reduceToNat, same_refl, hee, Bool.and_self, Bool.not_true, Bool.false_eq_true]
  refine q_call _ (by simp -implicitDefEqProofs only [go_sem, ↓reduceIte, Nat.reduceEqDiff]; exact Err_spec hs2) (by decide) rfl ?_
  simp -implicitDefEqProofs only [go_sem, ↓reduceIte, Nat.reduceEqDiff, Nat.reduceLT, Nat.reduceLeDiff, Nat.reduceAdd, Nat.reduceMul, Nat.reduceSub, reduceCtorEq, Nat.reduceMod, Nat.reduceBEq, Int.reduceBEq, Int.reduceBNe, Int.reduceToNat, neI, Bool.false_eq_true]
  refine q_call _ (by simp -implicitDefEqProofs only [go_sem, ↓reduceIte, Nat.reduceEqDiff]; exact Left_spec hs2 ok2) (by decide) rfl ?_
  simp -implicitDefEqProofs only [go_sem, ↓reduceIte, Nat.reduceEqDiff, Nat.reduceLT, Nat.reduceLeDiff, Nat.reduceAdd, Nat.reduceMul, Nat.reduceSub, reduceCtorEq, Nat.reduceMod, Nat.reduceBEq, Int.reduceBEq, Int.reduceBNe, Int.reduceToNat, hlf, Bool.false_eq_true]
 case' neg =>
  have d0 : (vcheck w == 0) = false := beq_eq_false_iff_ne.2 h0
  obtain ⟨S1, hS1⟩ : ∃ S1, S1 = S := ⟨_, rfl⟩
  rw [← hS1]
  simp -implicitDefEqProofs only [go_sem, ↓reduceIte, Nat.reduceEqDiff, Nat.reduceLT, Nat.reduceLeDiff, Nat.reduceAdd, Nat.reduceMul, Nat.reduceSub, reduceCtorEq, Nat.reduceMod, Nat.reduceBEq, Int.reduceBEq, Int.reduceBNe, Int.reduceToNat, d0]
 all_goals
  refine Read_calls b (by omega) _ ?_
  intro id2 hid2
  simp -implicitDefEqProofs only [go_sem, ↓reduceIte, Nat.reduceEqDiff, Nat.reduceLT, Nat.reduceLeDiff, Nat.reduceAdd, Nat.reduceMul, Nat.reduceSub, reduceCtorEq, Nat.reduceMod, Nat.reduceBEq, Int.reduceBEq, Int.reduceBNe, Int.reduceToNat]
  intro xid hx
  have nx : id2 ≠ xid := fun he => by rw [← he, set_at] at hx; cases hx
  have g1 : ((S1.set id2 (some (wcells ⟨b, 0, 0⟩))).set xid (some (rcells ⟨b, 0, 0⟩))) id2 = some (wcells ⟨b, 0, 0⟩) := by rw [Go.VL.set_ne nx]; exact set_at _ _ _
  have g2 : ((S1.set id2 (some (wcells ⟨b, 0, 0⟩))).set xid (some (rcells ⟨b, 0, 0⟩))) xid = some (rcells ⟨b, 0, 0⟩) := set_at _ _ _
  change vwp _ _ _ _ _ ((S1.set id2 (some (wcells ⟨b, 0, 0⟩))).set xid (some (rcells ⟨b, 0, 0⟩)))
  generalize (S1.set id2 (some (wcells ⟨b, 0, 0⟩))).set xid (some (rcells ⟨b, 0, 0⟩)) = S3 at g1 g2 ⊢
  refine vwp_mix (n := 10) (fun k => k == 1 || k == 3 || k == 15) (fun _ => false) [0, 2, 1, 3, 4, 5, 6, 7, 8, 9, 10, 11, 12, 13, 14, 15, 16, 17] (by decide +kernel) ?_
  simp -implicitDefEqProofs only [go_sem, ↓reduceIte, Nat.reduceEqDiff, Nat.reduceLT, Nat.reduceLeDiff, Nat.reduceAdd, Nat.reduceMul, Nat.reduceSub, reduceCtorEq, Nat.reduceMod, Nat.reduceBEq, Int.reduceBEq, Int.reduceBNe, Int.reduceToNat]
  refine wGet_calls g1 okb _ ?_
  have g3 : (S3.set id2 (some (wcells (getV ⟨b, 0, 0⟩).2))) id2 = some (wcells (getV ⟨b, 0, 0⟩).2) := set_at _ _ _
  have g4 : (S3.set id2 (some (wcells (getV ⟨b, 0, 0⟩).2))) xid = some (rcells ⟨b, 0, 0⟩) := by rw [Go.VL.set_ne (Ne.symm nx)]; exact g2
  generalize S3.set id2 (some (wcells (getV ⟨b, 0, 0⟩).2)) = S4 at g3 g4 ⊢
  simp -implicitDefEqProofs only [go_sem, ↓reduceIte, Nat.reduceEqDiff, Nat.reduceLT, Nat.reduceLeDiff, Nat.reduceAdd, Nat.reduceMul, Nat.reduceSub, reduceCtorEq, Nat.reduceMod, Nat.reduceBEq, Int.reduceBEq, Int.reduceBNe, Int.reduceToNat]
  refine rTake_calls g4 okb _ ?_
  have g5 : (S4.set xid (some (rcells (getV ⟨b, 0, 0⟩).2))) id2 = some (wcells (getV ⟨b, 0, 0⟩).2) := by rw [Go.VL.set_ne nx]; exact g3
  have g6 : (S4.set xid (some (rcells (getV ⟨b, 0, 0⟩).2))) xid = some (rcells (getV ⟨b, 0, 0⟩).2) := set_at _ _ _
  generalize S4.set xid (some (rcells (getV ⟨b, 0, 0⟩).2)) = S5 at g5 g6 ⊢
  generalize getV ⟨b, 0, 0⟩ = r at g5 g6 ⊢
  obtain ⟨v, t⟩ := r
  unfold rcells at g6
  unfold encW
  dsimp only at g5 g6 ⊢
  simp -implicitDefEqProofs only [go_sem, ↓reduceIte, Nat.reduceEqDiff, Nat.reduceLT, Nat.reduceLeDiff, Nat.reduceAdd, Nat.reduceMul, Nat.reduceSub, reduceCtorEq, Nat.reduceMod, Nat.reduceBEq, Int.reduceBEq, Int.reduceBNe, Int.reduceToNat, same_refl, hee, Bool.and_self]
  refine q_call _ (by simp -implicitDefEqProofs only [go_sem, ↓reduceIte, Nat.reduceEqDiff]; exact Err_spec g5) (by decide) rfl ?_
  simp -implicitDefEqProofs only [go_sem, ↓reduceIte, Nat.reduceEqDiff, Nat.reduceLT, Nat.reduceLeDiff, Nat.reduceAdd, Nat.reduceMul, Nat.reduceSub, reduceCtorEq, Nat.reduceMod, Nat.reduceBEq, Int.reduceBEq, Int.reduceBNe, Int.reduceToNat, g6, hee]
  refine aw_calls _ _ ?_
  intro S6
  simp -implicitDefEqProofs only [go_sem, ↓reduceIte, Nat.reduceEqDiff, Nat.reduceLT, Nat.reduceLeDiff, Nat.reduceAdd, Nat.reduceMul, Nat.reduceSub, reduceCtorEq, Nat.reduceMod, Nat.reduceBEq, Int.reduceBEq, Int.reduceBNe, Int.reduceToNat]
  exact ⟨S6, fun _ _ h => h, hK S6⟩
end Go.Proofs.YtdioedabjaaboaaGreat.V
