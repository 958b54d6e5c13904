/- Views: the example, walked. -/
import Derived.Test.YtdioedabjaaboaaGreatXT
set_option linter.unusedVariables false
set_option linter.unusedSimpArgs false
namespace Go.Proofs.YtdioedabjaaboaaGreat.V
open Go Go.VL

theorem fitM1 : FitK M1 := by unfold FitK; decide +kernel
theorem fitM2 : FitK M2 := by unfold FitK; decide +kernel
theorem fitO1 : FitO aw1.ops := by unfold FitO; decide +kernel
theorem fitO3 : FitO aw3.ops := by unfold FitO; decide +kernel
set_option maxHeartbeats 8000000 in
theorem vawake_calls (S : Store) (K : PV → Store → Prop) (hK : ∀ S', Sub' S S' → K (.bool true) S') : PCalls Tryz.prog 9 [] S K := by
 refine pcalls_of (C := C) (fun _ => false) (fun _ => false) Tryz.func9 rfl rfl (by simp [Tryz.f9]) ?_
 simp -implicitDefEqProofs only [go_sem, ↓reduceIte, Nat.reduceEqDiff, Nat.reduceLT, Nat.reduceLeDiff, Nat.reduceAdd, Nat.reduceMul, Nat.reduceSub, reduceCtorEq, Nat.reduceMod, Nat.reduceBEq, Int.reduceBEq, Int.reduceBNe, Int.reduceToNat, Tryz.f9]
 refine begun_calls S _ ?_
 intro S1 mid vid hsub hmid hvid h1
 unfold encPair
 simp -implicitDefEqProofs only [go_sem, ↓reduceIte, Nat.reduceEqDiff, Nat.reduceLT, Nat.reduceLeDiff, Nat.reduceAdd, Nat.reduceMul, Nat.reduceSub, reduceCtorEq, Nat.reduceMod, Nat.reduceBEq, Int.reduceBEq, Int.reduceBNe, Int.reduceToNat]
 refine vwp_tail (i := 2) 6 (by decide +kernel) (by decide +kernel) ?_
 dsimp only [List.take, List.drop]
 simp -implicitDefEqProofs only [go_sem, ↓reduceIte, Nat.reduceEqDiff, Nat.reduceLT, Nat.reduceLeDiff, Nat.reduceAdd, Nat.reduceMul, Nat.reduceSub, reduceCtorEq, Nat.reduceMod, Nat.reduceBEq, Int.reduceBEq, Int.reduceBNe, Int.reduceToNat]
 refine q_call _ (by simp -implicitDefEqProofs only [go_sem, ↓reduceIte, Nat.reduceEqDiff]; exact vput_spec _ _ _) (by decide) rfl ?_
 refine q_call _ (by simp -implicitDefEqProofs only [go_sem, ↓reduceIte, Nat.reduceEqDiff]; exact vput_spec _ _ _) (by decide) rfl ?_
 refine q_call _ (by simp -implicitDefEqProofs only [go_sem, ↓reduceIte, Nat.reduceEqDiff]; exact vput_spec _ _ _) (by decide) rfl ?_
 simp -implicitDefEqProofs only [go_sem, ↓reduceIte, Nat.reduceEqDiff, Nat.reduceLT, Nat.reduceLeDiff, Nat.reduceAdd, Nat.reduceMul, Nat.reduceSub, reduceCtorEq, Nat.reduceMod, Nat.reduceBEq, Int.reduceBEq, Int.reduceBNe, Int.reduceToNat]
 refine PCalls.unflag (does_ops h1 aw1 aw_o0 fitO1 _ (fun h => absurd aw_p1 h) (fun _ h => by cases h) ?_)
 intro _ _ S2 N t' hfr hN hkm ht' hvs
 rw [aw_d1] at ht' hvs
 have hN0 : N = [] := by simpa using hN
 subst hN0
 have h2 : Ps S2 mid vid M1 [] t' := ⟨hkm, ht', hvs, fitM1, by decide, by decide⟩
 have hne := h1.ne
 have hs2 : Sub' S S2 := fun id x hx => hfr id x (fun he => by rw [he, hvid] at hx; cases hx) (fun he => by rw [he, hmid] at hx; cases hx) (hsub id x hx)
 simp -implicitDefEqProofs only [go_sem, ↓reduceIte, Nat.reduceEqDiff, Nat.reduceLT, Nat.reduceLeDiff, Nat.reduceAdd, Nat.reduceMul, Nat.reduceSub, reduceCtorEq, Nat.reduceMod, Nat.reduceBEq, Int.reduceBEq, Int.reduceBNe, Int.reduceToNat]
 refine vwp_tail (i := 3) 3 (by decide +kernel) (by decide +kernel) ?_
 dsimp only [List.take, List.drop]
 simp -implicitDefEqProofs only [go_sem, ↓reduceIte, Nat.reduceEqDiff, Nat.reduceLT, Nat.reduceLeDiff, Nat.reduceAdd, Nat.reduceMul, Nat.reduceSub, reduceCtorEq, Nat.reduceMod, Nat.reduceBEq, Int.reduceBEq, Int.reduceBNe, Int.reduceToNat]
 refine q_call _ (by simp -implicitDefEqProofs only [go_sem, ↓reduceIte, Nat.reduceEqDiff]; exact vsum_spec _) (by decide) rfl ?_
 unfold encW
 simp -implicitDefEqProofs only [go_sem, ↓reduceIte, Nat.reduceEqDiff, Nat.reduceLT, Nat.reduceLeDiff, Nat.reduceAdd, Nat.reduceMul, Nat.reduceSub, reduceCtorEq, Nat.reduceMod, Nat.reduceBEq, Int.reduceBEq, Int.reduceBNe, Int.reduceToNat]
 refine does_add h2 aw2 aw_o4 _ (fun _ _ h => absurd aw_a h) ?_
 intro S3 gid hfr3 _ hvs3
 have h3 : Ps S3 mid vid M1 [(wS, gid)] t' := ⟨⟨hfr3 _ _ hne hkm.1, hkm.2⟩, ht', hvs3, fitM1, by decide, (show 1 ≤ 1000000 by decide)⟩
 have hs3 : Sub' S S3 := fun id x hx => hfr3 id x (fun he => by rw [he, hvid] at hx; cases hx) (hs2 id x hx)
 have hnd1 : (M1.map Prod.fst).Nodup := sorted_nodup (ht' ▸ hkm.2.2)
 have w1 : ∀ g, whereF ⟨#[115]⟩ [(wS, g)] 0 = ((0 : Nat) : Int) := fun g => by
  show (if same wS.name ⟨#[115]⟩ = true then ((0 : Nat) : Int) else _) = _
  rw [if_pos (show same wS.name ⟨#[115]⟩ = true from same_refl _)]
 have rl1 : encRVs [⟨tx, [], 3⟩] = [[.str tx, .sl .no 1 [], .int .i64 3]] := rfl
 have rl2 : encRVs [⟨tx, [], -2⟩] = [[.str tx, .sl .no 1 [], .int .i64 (-2)]] := rfl
 simp -implicitDefEqProofs only [go_sem, ↓reduceIte, Nat.reduceEqDiff, Nat.reduceLT, Nat.reduceLeDiff, Nat.reduceAdd, Nat.reduceMul, Nat.reduceSub, reduceCtorEq, Nat.reduceMod, Nat.reduceBEq, Int.reduceBEq, Int.reduceBNe, Int.reduceToNat]
 refine VRows_at h3.vs (show 1 ≤ 1000000 by decide) (by decide) fitM1 hnd1 ⟨#[115]⟩ (w1 gid) (t := (wS, gid)) rfl _ ?_
 rw [aw_r1, rl1]
 simp -implicitDefEqProofs only [go_sem, ↓reduceIte, Nat.reduceEqDiff, Nat.reduceLT, Nat.reduceLeDiff, Nat.reduceAdd, Nat.reduceMul, Nat.reduceSub, reduceCtorEq, Nat.reduceMod, Nat.reduceBEq, Int.reduceBEq, Int.reduceBNe, Int.reduceToNat]
 refine PCalls.unflag (does_ops h3 aw3 aw_o0 fitO3 _ (fun h => absurd aw_p3 h) (fun _ h => ?_) ?_)
 ·rw [aw_d3] at h
  have : takeE [(wS, gid)] M2 = 0 := by
   unfold takeE
   rw [if_pos]
   simp [aw_f2]
  rw [this] at h; cases h
 intro _ _ S4 N4 t4 hfr4 hN4 hkm4 ht4 hvs4
 rw [aw_d3] at ht4 hvs4
 obtain ⟨gid4, rfl⟩ : ∃ g, N4 = [(wS, g)] := by
  match N4, hN4 with
  | [(a, b)], h => simp at h; exact ⟨b, by rw [h]⟩
 have h4 : Ps S4 mid vid M2 [(wS, gid4)] t4 := ⟨hkm4, ht4, hvs4, fitM2, by decide, (show 1 ≤ 1000000 by decide)⟩
 have hs4 : Sub' S S4 := fun id x hx => hfr4 id x (fun he => by rw [he, hvid] at hx; cases hx) (fun he => by rw [he, hmid] at hx; cases hx) (hs3 id x hx)
 have hnd2 : (M2.map Prod.fst).Nodup := sorted_nodup (ht4 ▸ hkm4.2.2)
 simp -implicitDefEqProofs only [go_sem, ↓reduceIte, Nat.reduceEqDiff, Nat.reduceLT, Nat.reduceLeDiff, Nat.reduceAdd, Nat.reduceMul, Nat.reduceSub, reduceCtorEq, Nat.reduceMod, Nat.reduceBEq, Int.reduceBEq, Int.reduceBNe, Int.reduceToNat]
 refine VRows_at h4.vs (show 1 ≤ 1000000 by decide) (by decide) fitM2 hnd2 ⟨#[115]⟩ (w1 gid4) (t := (wS, gid4)) rfl _ ?_
 rw [aw_r2, rl2]
 simp -implicitDefEqProofs only [go_sem, ↓reduceIte, Nat.reduceEqDiff, Nat.reduceLT, Nat.reduceLeDiff, Nat.reduceAdd, Nat.reduceMul, Nat.reduceSub, reduceCtorEq, Nat.reduceMod, Nat.reduceBEq, Int.reduceBEq, Int.reduceBNe, Int.reduceToNat]
 have g1 : (0 : Int) ≤ 0 ∧ (0 : Int) < 1 := by decide
 have g2 : ((1 : Int) == 1) = true := rfl
 have g3 : ((3 : Int) == 3) = true := rfl
 have g4 : ((-2 : Int) == -2) = true := rfl
 have i1c : ((1 : Nat) : Int) = 1 := rfl
 have g5 : ((70 : Int) == 70) = true := rfl
 have g6 : same tx ⟨#[120]⟩ = true := same_refl _
 have g7 : 0 ≤ whereF aw2.view.name [(wS, gid4)] 0 := by
  show (0 : Int) ≤ (if same wS.name wS.name = true then ((0 : Nat) : Int) else _)
  rw [if_pos (same_refl _)]; decide
 refine vwp_draw (i := 7) (by decide +kernel) ?_
 simp -implicitDefEqProofs only [go_sem, ↓reduceIte, Nat.reduceEqDiff, Nat.reduceLT, Nat.reduceLeDiff, Nat.reduceAdd, Nat.reduceMul, Nat.reduceSub, reduceCtorEq, Nat.reduceMod, Nat.reduceBEq, Int.reduceBEq, Int.reduceBNe, Int.reduceToNat, c0, g1, g2, g3, g4, g6, List.length_cons, List.length_nil, Nat.zero_add, Int.toNat_zero, List.getD_cons_zero, i1c]
 refine q_call _ (by simp -implicitDefEqProofs only [go_sem, ↓reduceIte, Nat.reduceEqDiff]; exact vsum_spec _) (by decide) rfl ?_
 unfold encW
 simp -implicitDefEqProofs only [go_sem, ↓reduceIte, Nat.reduceEqDiff, Nat.reduceLT, Nat.reduceLeDiff, Nat.reduceAdd, Nat.reduceMul, Nat.reduceSub, reduceCtorEq, Nat.reduceMod, Nat.reduceBEq, Int.reduceBEq, Int.reduceBNe, Int.reduceToNat]
 refine q_call _ (by simp -implicitDefEqProofs only [go_sem, ↓reduceIte, Nat.reduceEqDiff]; exact does_there h4 aw2 aw_o4 aw_v g7) (by decide) rfl ?_
 simp -implicitDefEqProofs only [go_sem, ↓reduceIte, Nat.reduceEqDiff, Nat.reduceLT, Nat.reduceLeDiff, Nat.reduceAdd, Nat.reduceMul, Nat.reduceSub, reduceCtorEq, Nat.reduceMod, Nat.reduceBEq, Int.reduceBEq, Int.reduceBNe, Int.reduceToNat, g5]
 exact ⟨S4, fun _ _ h => h, hK S4 hs4⟩
end Go.Proofs.YtdioedabjaaboaaGreat.V
