/- Bytes: the law. -/
import Derived.Test.YtmplfmhcpkmpbaaBI
import Derived.Test.YtmplfmhcpkmpbaaVLM
set_option linter.unusedVariables false
set_option linter.unusedSimpArgs false
namespace Go.Proofs.Ytmplfmhcpkmpbaa.V
open Go Go.VL

theorem Left_spec {S : Store} {id : Nat} {s : Rd} (hs : S id = some (wcells s)) (ok : s.Ok) : PRet Try.prog 45 [.ref id 0] S (.int .i64 (s.b.length - s.p : Nat)) := by
  intro K hK
  refine pcalls_of (C := C) (fun _ => false) (fun _ => false) Try.func45 rfl rfl (by simp [Try.f45]) ?_
  have hs' := hs
  unfold wcells at hs'
  have ho := ok.1
  have ho2 := ok.2
  have w1 : IntKind.i64.wrap ((s.b.length : Int) - (s.p : Int)) = ((s.b.length - s.p : Nat) : Int) := by rw [wrap64 (by omega) (by omega)]; omega
  simp -implicitDefEqProofs only [go_sem, ↓reduceIte, Nat.reduceEqDiff, Nat.reduceLT, Nat.reduceLeDiff, Nat.reduceAdd, Nat.reduceMul, Nat.reduceSub, reduceCtorEq, Nat.reduceMod, Nat.reduceBEq, Int.reduceBEq, Int.reduceBNe, Int.reduceToNat, Try.f45]
  refine dead_spec hs _ ?_
  simp -implicitDefEqProofs only [go_sem, ↓reduceIte, Nat.reduceEqDiff, Nat.reduceLT, Nat.reduceLeDiff, Nat.reduceAdd, Nat.reduceMul, Nat.reduceSub, reduceCtorEq, Nat.reduceMod, Nat.reduceBEq, Int.reduceBEq, Int.reduceBNe, Int.reduceToNat, hs']
  refine vwp_draw (by decide +kernel) ?_
  simp -implicitDefEqProofs only [go_sem, ↓reduceIte, Nat.reduceEqDiff, Nat.reduceLT, Nat.reduceLeDiff, Nat.reduceAdd, Nat.reduceMul, Nat.reduceSub, reduceCtorEq, Nat.reduceMod, Nat.reduceBEq, Int.reduceBEq, Int.reduceBNe, Int.reduceToNat, hs', w1]
  exact ⟨_, fun _ _ h => h, hK⟩
theorem Read_calls {S : Store} (b : List UInt8) (hb : b.length ≤ 900000) (K : PV → Store → Prop) (hK : ∀ id, S id = none → K (.ref id 0) (S.set id (some (wcells ⟨b, 0, 0⟩)))) : PCalls Try.prog 42 [.sl .no 1 (encB b)] S K := by
  refine pcalls_of (C := C) (fun _ => false) (fun d => d == 7) Try.func42 rfl rfl (by simp [Try.f42]) ?_
  have a1 := small1 (k := 0 + b.length) (by omega)
  simp -implicitDefEqProofs only [go_sem, ↓reduceIte, Nat.reduceEqDiff, Nat.reduceLT, Nat.reduceLeDiff, Nat.reduceAdd, Nat.reduceMul, Nat.reduceSub, reduceCtorEq, Nat.reduceMod, Nat.reduceBEq, Int.reduceBEq, Int.reduceBNe, Int.reduceToNat, Try.f42]
  refine ⟨by omega, ?_⟩
  intro id hid
  exact ⟨_, fun _ _ h => h, hK id hid⟩
theorem bytesEq_spec (a : List UInt8) (S : Store) : PRet Try.prog 39 [.sl .no 1 (encB a), .sl .no 1 (encB a)] S (.bool true) := by
  intro K hK
  refine pcalls_of (C := C) (fun _ => false) (fun _ => false) Try.func39 rfl rfl (by simp [Try.f39]) ?_
  simp -implicitDefEqProofs only [go_sem, ↓reduceIte, Nat.reduceEqDiff, Nat.reduceLT, Nat.reduceLeDiff, Nat.reduceAdd, Nat.reduceMul, Nat.reduceSub, reduceCtorEq, Nat.reduceMod, Nat.reduceBEq, Int.reduceBEq, Int.reduceBNe, Int.reduceToNat, Try.f39, pbs_encB, bsOf_str, beq_self_eq_true]
  exact ⟨S, fun _ _ h => h, hK⟩
theorem zz0 {e : Int} (h : ¬ e = 0) : (e == 0) = false := by simp [h]
theorem getF_ok : ∀ (n : Nat) (s : Rd), s.Ok → (getF n s).2.Ok
  | 0, s, h => h
  | n + 1, s, h => by
    unfold getF
    split
    · exact getF_ok n _ (getOne_went h).1
    · exact h
theorem getOps_ok {most : Int} {s : Rd} (ok : s.Ok) : (getOps most s).2.Ok := getF_ok _ _ (rWithin_ok ok _ _)

set_option maxHeartbeats 2000000 in
theorem bytes_law (l : List KO) (b : List UInt8) (most : Int) (S : Store) : PRet Try.prog 12 [.sl .no 3 (encOs l), .sl .no 1 (encB b), .int .i64 most] S (.bool true) := by
  intro K hK
  refine pcalls_of (C := C) (fun _ => false) (fun d => d == 65) Try.func12 rfl rfl (by simp [Try.f12]) ?_
  simp -implicitDefEqProofs only [go_sem, ↓reduceIte, Nat.reduceEqDiff, Nat.reduceLT, Nat.reduceLeDiff, Nat.reduceAdd, Nat.reduceMul, Nat.reduceSub, reduceCtorEq, Nat.reduceMod, Nat.reduceBEq, Int.reduceBEq, Int.reduceBNe, Int.reduceToNat, Try.f12]
  refine weigh_spec l _ _ ?_
  by_cases h1 : weighF 0 l ≤ 32768
  · have d1 : ¬ (32768 : Int) < (weighF 0 l : Nat) := by omega
    by_cases h2 : b.length ≤ 32768
    · have d2 : ¬ (32768 : Int) < (b.length : Int) := by omega
      simp -implicitDefEqProofs only [go_sem, ↓reduceIte, Nat.reduceEqDiff, Nat.reduceLT, Nat.reduceLeDiff, Nat.reduceAdd, Nat.reduceMul, Nat.reduceSub, reduceCtorEq, Nat.reduceMod, Nat.reduceBEq, Int.reduceBEq, Int.reduceBNe, Int.reduceToNat, d1, d2]
      refine wput_spec b l h1 (by omega) _ _ ?_
      simp -implicitDefEqProofs only [go_sem, ↓reduceIte, Nat.reduceEqDiff, Nat.reduceLT, Nat.reduceLeDiff, Nat.reduceAdd, Nat.reduceMul, Nat.reduceSub, reduceCtorEq, Nat.reduceMod, Nat.reduceBEq, Int.reduceBEq, Int.reduceBNe, Int.reduceToNat]
      refine rput_spec b l h1 (by omega) _ _ ?_
      simp -implicitDefEqProofs only [go_sem, ↓reduceIte, Nat.reduceEqDiff, Nat.reduceLT, Nat.reduceLeDiff, Nat.reduceAdd, Nat.reduceMul, Nat.reduceSub, reduceCtorEq, Nat.reduceMod, Nat.reduceBEq, Int.reduceBEq, Int.reduceBNe, Int.reduceToNat]
      refine bytesEq_spec _ _ _ ?_
      simp -implicitDefEqProofs only [go_sem, ↓reduceIte, Nat.reduceEqDiff, Nat.reduceLT, Nat.reduceLeDiff, Nat.reduceAdd, Nat.reduceMul, Nat.reduceSub, reduceCtorEq, Nat.reduceMod, Nat.reduceBEq, Int.reduceBEq, Int.reduceBNe, Int.reduceToNat]
      have q00 : ((0 : Int) == 0) = true := rfl
      have okb : Rd.Ok ⟨b, 0, 0⟩ := ⟨Nat.zero_le _, by dsimp only; omega⟩
      by_cases h3 : l.length < 20
      · have d3 : (l.length : Int) < 20 := by omega
        simp -implicitDefEqProofs only [go_sem, ↓reduceIte, Nat.reduceEqDiff, Nat.reduceLT, Nat.reduceLeDiff, Nat.reduceAdd, Nat.reduceMul, Nat.reduceSub, reduceCtorEq, Nat.reduceMod, Nat.reduceBEq, Int.reduceBEq, Int.reduceBNe, Int.reduceToNat, d3]
        refine rright_spec l (by omega) (weigh_fit h1).2 _ _ ?_
        by_cases h4 : rightF [] l = 0
        · simp -implicitDefEqProofs only [go_sem, ↓reduceIte, Nat.reduceEqDiff, Nat.reduceLT, Nat.reduceLeDiff, Nat.reduceAdd, Nat.reduceMul, Nat.reduceSub, reduceCtorEq, Nat.reduceMod, Nat.reduceBEq, Int.reduceBEq, Int.reduceBNe, Int.reduceToNat, h4, q00]
          refine PCalls.unflag ?_
          show PCalls _ _ [.sl .no 1 (encB []), .sl .no 3 (encOs l)] _ _
          refine wput_spec [] l h1 (by decide) _ _ ?_
          have hlen := opsB_len l 0 h1
          have hn3 := numB_len3 (n := l.length) (by omega)
          have hpl : (putB l).length ≤ 262147 := by unfold putB; rw [List.length_append]; omega
          have a1 := small1 (k := (putB l).length + b.length) (by omega)
          simp -implicitDefEqProofs only [go_sem, ↓reduceIte, Nat.reduceEqDiff, Nat.reduceLT, Nat.reduceLeDiff, Nat.reduceAdd, Nat.reduceMul, Nat.reduceSub, reduceCtorEq, Nat.reduceMod, Nat.reduceBEq, Int.reduceBEq, Int.reduceBNe, Int.reduceToNat, List.nil_append, a1, encB_app]
          refine Read_calls (putB l ++ b) (by rw [List.length_append]; omega) _ ?_
          intro id1 hid1
          simp -implicitDefEqProofs only [go_sem, ↓reduceIte, Nat.reduceEqDiff, Nat.reduceLT, Nat.reduceLeDiff, Nat.reduceAdd, Nat.reduceMul, Nat.reduceSub, reduceCtorEq, Nat.reduceMod, Nat.reduceBEq, Int.reduceBEq, Int.reduceBNe, Int.reduceToNat]
          refine wget_calls (s := ⟨putB l ++ b, 0, 0⟩) (set_at _ _ _) ⟨Nat.zero_le _, by dsimp only; rw [List.length_append]; omega⟩ 20 _ ?_
          intro fl hgl
          rw [getOps_put (by omega) (right_size l [] h4), set_set]
          simp -implicitDefEqProofs only [go_sem, ↓reduceIte, Nat.reduceEqDiff, Nat.reduceLT, Nat.reduceLeDiff, Nat.reduceAdd, Nat.reduceMul, Nat.reduceSub, reduceCtorEq, Nat.reduceMod, Nat.reduceBEq, Int.reduceBEq, Int.reduceBNe, Int.reduceToNat]
          refine EqualO_refl l (by omega) _ _ ?_
          simp -implicitDefEqProofs only [go_sem, ↓reduceIte, Nat.reduceEqDiff, Nat.reduceLT, Nat.reduceLeDiff, Nat.reduceAdd, Nat.reduceMul, Nat.reduceSub, reduceCtorEq, Nat.reduceMod, Nat.reduceBEq, Int.reduceBEq, Int.reduceBNe, Int.reduceToNat]
          refine Err_spec (s := ⟨putB l ++ b, (putB l).length, 0⟩) (set_at _ _ _) _ ?_
          have q01 : ((0 : Int) != 0) = false := rfl
          simp -implicitDefEqProofs only [go_sem, ↓reduceIte, Nat.reduceEqDiff, Nat.reduceLT, Nat.reduceLeDiff, Nat.reduceAdd, Nat.reduceMul, Nat.reduceSub, reduceCtorEq, Nat.reduceMod, Nat.reduceBEq, Int.reduceBEq, Int.reduceBNe, Int.reduceToNat, q01]
          refine Left_spec (s := ⟨putB l ++ b, (putB l).length, 0⟩) (set_at _ _ _) ⟨by dsimp only; rw [List.length_append]; omega, by dsimp only; rw [List.length_append]; omega⟩ _ ?_
          have hle : (((putB l ++ b).length - (putB l).length : Nat) : Int) = (b.length : Int) := by rw [List.length_append]; omega
          have q02 : ((b.length : Int) != (b.length : Int)) = false := by simp
          simp -implicitDefEqProofs only [go_sem, ↓reduceIte, Nat.reduceEqDiff, Nat.reduceLT, Nat.reduceLeDiff, Nat.reduceAdd, Nat.reduceMul, Nat.reduceSub, reduceCtorEq, Nat.reduceMod, Nat.reduceBEq, Int.reduceBEq, Int.reduceBNe, Int.reduceToNat, hle, q02]
          refine Read_calls b (by omega) _ ?_
          intro id2 hid2
          simp -implicitDefEqProofs only [go_sem, ↓reduceIte, Nat.reduceEqDiff, Nat.reduceLT, Nat.reduceLeDiff, Nat.reduceAdd, Nat.reduceMul, Nat.reduceSub, reduceCtorEq, Nat.reduceMod, Nat.reduceBEq, Int.reduceBEq, Int.reduceBNe, Int.reduceToNat]
          intro id3 hid3
          have n32 : id3 ≠ id2 := fun h => by rw [h, set_at] at hid3; cases hid3
          have n23 : id2 ≠ id3 := fun h => n32 h.symm
          refine vwp_mix (fun k => k == 2 || k == 5) [0, 1, 3, 4, 2, 5, 6, 7, 8, 9, 10, 11, 12, 13, 14, 15, 16, 17, 18, 19] (by decide +kernel) ?_
          simp -implicitDefEqProofs only [go_sem, ↓reduceIte, Nat.reduceEqDiff, Nat.reduceLT, Nat.reduceLeDiff, Nat.reduceAdd, Nat.reduceMul, Nat.reduceSub, reduceCtorEq, Nat.reduceMod, Nat.reduceBEq, Int.reduceBEq, Int.reduceBNe, Int.reduceToNat]
          refine wget_calls (s := ⟨b, 0, 0⟩) (id := id2) (by rw [Go.VL.set_ne n23, set_at]) okb most _ ?_
          intro fl2 hgl2
          simp -implicitDefEqProofs only [go_sem, ↓reduceIte, Nat.reduceEqDiff, Nat.reduceLT, Nat.reduceLeDiff, Nat.reduceAdd, Nat.reduceMul, Nat.reduceSub, reduceCtorEq, Nat.reduceMod, Nat.reduceBEq, Int.reduceBEq, Int.reduceBNe, Int.reduceToNat]
          refine rget_calls (s := ⟨b, 0, 0⟩) (id := id3) (by rw [Go.VL.set_ne n32, set_at]; rfl) okb most _ ?_
          intro fl3 hgl3
          have hoG := getOps_ok (most := most) okb
          generalize getOps most ⟨b, 0, 0⟩ = G at hgl2 hgl3 hoG ⊢
          obtain ⟨L, s9⟩ := G
          simp -implicitDefEqProofs only [go_sem, ↓reduceIte, Nat.reduceEqDiff, Nat.reduceLT, Nat.reduceLeDiff, Nat.reduceAdd, Nat.reduceMul, Nat.reduceSub, reduceCtorEq, Nat.reduceMod, Nat.reduceBEq, Int.reduceBEq, Int.reduceBNe, Int.reduceToNat]
          refine q_call _ (by simp -implicitDefEqProofs only [go_sem, ↓reduceIte, Nat.reduceEqDiff, Nat.reduceLT, Nat.reduceLeDiff, Nat.reduceAdd, Nat.reduceMul, Nat.reduceSub, reduceCtorEq, Nat.reduceMod, Nat.reduceBEq, Int.reduceBEq, Int.reduceBNe, Int.reduceToNat]; exact EqualO_refl L (by dsimp only at hgl2; omega) _) (by decide) rfl ?_
          simp -implicitDefEqProofs only [go_sem, ↓reduceIte, Nat.reduceEqDiff, Nat.reduceLT, Nat.reduceLeDiff, Nat.reduceAdd, Nat.reduceMul, Nat.reduceSub, reduceCtorEq, Nat.reduceMod, Nat.reduceBEq, Int.reduceBEq, Int.reduceBNe, Int.reduceToNat]
          refine q_call _ (by simp -implicitDefEqProofs only [go_sem, ↓reduceIte, Nat.reduceEqDiff, Nat.reduceLT, Nat.reduceLeDiff, Nat.reduceAdd, Nat.reduceMul, Nat.reduceSub, reduceCtorEq, Nat.reduceMod, Nat.reduceBEq, Int.reduceBEq, Int.reduceBNe, Int.reduceToNat]; exact Err_spec (s := s9) (by rw [Go.VL.set_ne n23, set_at])) (by decide) rfl ?_
          have hx : rcells s9 = [.sl .no 1 (encB s9.b), .int .i64 s9.p, .int .i64 s9.e] := rfl
          simp -implicitDefEqProofs only [go_sem, ↓reduceIte, Nat.reduceEqDiff, Nat.reduceLT, Nat.reduceLeDiff, Nat.reduceAdd, Nat.reduceMul, Nat.reduceSub, reduceCtorEq, Nat.reduceMod, Nat.reduceBEq, Int.reduceBEq, Int.reduceBNe, Int.reduceToNat, hx]
          refine q_call _ (by simp -implicitDefEqProofs only [go_sem, ↓reduceIte, Nat.reduceEqDiff, Nat.reduceLT, Nat.reduceLeDiff, Nat.reduceAdd, Nat.reduceMul, Nat.reduceSub, reduceCtorEq, Nat.reduceMod, Nat.reduceBEq, Int.reduceBEq, Int.reduceBNe, Int.reduceToNat]; exact awake_spec _) (by decide) rfl ?_
          simp -implicitDefEqProofs only [go_sem, ↓reduceIte, Nat.reduceEqDiff, Nat.reduceLT, Nat.reduceLeDiff, Nat.reduceAdd, Nat.reduceMul, Nat.reduceSub, reduceCtorEq, Nat.reduceMod, Nat.reduceBEq, Int.reduceBEq, Int.reduceBNe, Int.reduceToNat]
          refine ⟨S, fun i c hi => ?_, hK⟩
          have hB := hi
          rw [← Go.VL.set_ne (S := S) (id := id1) (c := some (wcells ⟨putB l ++ b, (putB l).length, 0⟩)) (fun h => by rw [h, hid1] at hi; cases hi)] at hB
          have i2 : i ≠ id2 := fun h => by rw [h, hid2] at hB; cases hB
          rw [Go.VL.set_ne n32] at hid3
          have i3 : i ≠ id3 := fun h => by rw [h, hid3] at hB; cases hB
          rw [Go.VL.set_ne i3, Go.VL.set_ne i2, Go.VL.set_ne i3, Go.VL.set_ne i2]
          exact hB
        · simp -implicitDefEqProofs only [go_sem, ↓reduceIte, Nat.reduceEqDiff, Nat.reduceLT, Nat.reduceLeDiff, Nat.reduceAdd, Nat.reduceMul, Nat.reduceSub, reduceCtorEq, Nat.reduceMod, Nat.reduceBEq, Int.reduceBEq, Int.reduceBNe, Int.reduceToNat, (zz0 h4)]
          refine Read_calls b (by omega) _ ?_
          intro id2 hid2
          simp -implicitDefEqProofs only [go_sem, ↓reduceIte, Nat.reduceEqDiff, Nat.reduceLT, Nat.reduceLeDiff, Nat.reduceAdd, Nat.reduceMul, Nat.reduceSub, reduceCtorEq, Nat.reduceMod, Nat.reduceBEq, Int.reduceBEq, Int.reduceBNe, Int.reduceToNat]
          intro id3 hid3
          have n32 : id3 ≠ id2 := fun h => by rw [h, set_at] at hid3; cases hid3
          have n23 : id2 ≠ id3 := fun h => n32 h.symm
          refine vwp_mix (fun k => k == 2 || k == 5) [0, 1, 3, 4, 2, 5, 6, 7, 8, 9, 10, 11, 12, 13, 14, 15, 16, 17, 18, 19] (by decide +kernel) ?_
          simp -implicitDefEqProofs only [go_sem, ↓reduceIte, Nat.reduceEqDiff, Nat.reduceLT, Nat.reduceLeDiff, Nat.reduceAdd, Nat.reduceMul, Nat.reduceSub, reduceCtorEq, Nat.reduceMod, Nat.reduceBEq, Int.reduceBEq, Int.reduceBNe, Int.reduceToNat]
          refine wget_calls (s := ⟨b, 0, 0⟩) (id := id2) (by rw [Go.VL.set_ne n23, set_at]) okb most _ ?_
          intro fl2 hgl2
          simp -implicitDefEqProofs only [go_sem, ↓reduceIte, Nat.reduceEqDiff, Nat.reduceLT, Nat.reduceLeDiff, Nat.reduceAdd, Nat.reduceMul, Nat.reduceSub, reduceCtorEq, Nat.reduceMod, Nat.reduceBEq, Int.reduceBEq, Int.reduceBNe, Int.reduceToNat]
          refine rget_calls (s := ⟨b, 0, 0⟩) (id := id3) (by rw [Go.VL.set_ne n32, set_at]; rfl) okb most _ ?_
          intro fl3 hgl3
          have hoG := getOps_ok (most := most) okb
          generalize getOps most ⟨b, 0, 0⟩ = G at hgl2 hgl3 hoG ⊢
          obtain ⟨L, s9⟩ := G
          simp -implicitDefEqProofs only [go_sem, ↓reduceIte, Nat.reduceEqDiff, Nat.reduceLT, Nat.reduceLeDiff, Nat.reduceAdd, Nat.reduceMul, Nat.reduceSub, reduceCtorEq, Nat.reduceMod, Nat.reduceBEq, Int.reduceBEq, Int.reduceBNe, Int.reduceToNat]
          refine q_call _ (by simp -implicitDefEqProofs only [go_sem, ↓reduceIte, Nat.reduceEqDiff, Nat.reduceLT, Nat.reduceLeDiff, Nat.reduceAdd, Nat.reduceMul, Nat.reduceSub, reduceCtorEq, Nat.reduceMod, Nat.reduceBEq, Int.reduceBEq, Int.reduceBNe, Int.reduceToNat]; exact EqualO_refl L (by dsimp only at hgl2; omega) _) (by decide) rfl ?_
          simp -implicitDefEqProofs only [go_sem, ↓reduceIte, Nat.reduceEqDiff, Nat.reduceLT, Nat.reduceLeDiff, Nat.reduceAdd, Nat.reduceMul, Nat.reduceSub, reduceCtorEq, Nat.reduceMod, Nat.reduceBEq, Int.reduceBEq, Int.reduceBNe, Int.reduceToNat]
          refine q_call _ (by simp -implicitDefEqProofs only [go_sem, ↓reduceIte, Nat.reduceEqDiff, Nat.reduceLT, Nat.reduceLeDiff, Nat.reduceAdd, Nat.reduceMul, Nat.reduceSub, reduceCtorEq, Nat.reduceMod, Nat.reduceBEq, Int.reduceBEq, Int.reduceBNe, Int.reduceToNat]; exact Err_spec (s := s9) (by rw [Go.VL.set_ne n23, set_at])) (by decide) rfl ?_
          have hx : rcells s9 = [.sl .no 1 (encB s9.b), .int .i64 s9.p, .int .i64 s9.e] := rfl
          simp -implicitDefEqProofs only [go_sem, ↓reduceIte, Nat.reduceEqDiff, Nat.reduceLT, Nat.reduceLeDiff, Nat.reduceAdd, Nat.reduceMul, Nat.reduceSub, reduceCtorEq, Nat.reduceMod, Nat.reduceBEq, Int.reduceBEq, Int.reduceBNe, Int.reduceToNat, hx]
          refine q_call _ (by simp -implicitDefEqProofs only [go_sem, ↓reduceIte, Nat.reduceEqDiff, Nat.reduceLT, Nat.reduceLeDiff, Nat.reduceAdd, Nat.reduceMul, Nat.reduceSub, reduceCtorEq, Nat.reduceMod, Nat.reduceBEq, Int.reduceBEq, Int.reduceBNe, Int.reduceToNat]; exact awake_spec _) (by decide) rfl ?_
          simp -implicitDefEqProofs only [go_sem, ↓reduceIte, Nat.reduceEqDiff, Nat.reduceLT, Nat.reduceLeDiff, Nat.reduceAdd, Nat.reduceMul, Nat.reduceSub, reduceCtorEq, Nat.reduceMod, Nat.reduceBEq, Int.reduceBEq, Int.reduceBNe, Int.reduceToNat]
          refine ⟨S, fun i c hi => ?_, hK⟩
          have hB := hi
          skip
          have i2 : i ≠ id2 := fun h => by rw [h, hid2] at hB; cases hB
          rw [Go.VL.set_ne n32] at hid3
          have i3 : i ≠ id3 := fun h => by rw [h, hid3] at hB; cases hB
          rw [Go.VL.set_ne i3, Go.VL.set_ne i2, Go.VL.set_ne i3, Go.VL.set_ne i2]
          exact hB
      · have d3 : ¬ (l.length : Int) < 20 := by omega
        simp -implicitDefEqProofs only [go_sem, ↓reduceIte, Nat.reduceEqDiff, Nat.reduceLT, Nat.reduceLeDiff, Nat.reduceAdd, Nat.reduceMul, Nat.reduceSub, reduceCtorEq, Nat.reduceMod, Nat.reduceBEq, Int.reduceBEq, Int.reduceBNe, Int.reduceToNat, d3]
        refine Read_calls b (by omega) _ ?_
        intro id2 hid2
        simp -implicitDefEqProofs only [go_sem, ↓reduceIte, Nat.reduceEqDiff, Nat.reduceLT, Nat.reduceLeDiff, Nat.reduceAdd, Nat.reduceMul, Nat.reduceSub, reduceCtorEq, Nat.reduceMod, Nat.reduceBEq, Int.reduceBEq, Int.reduceBNe, Int.reduceToNat]
        intro id3 hid3
        have n32 : id3 ≠ id2 := fun h => by rw [h, set_at] at hid3; cases hid3
        have n23 : id2 ≠ id3 := fun h => n32 h.symm
        refine vwp_mix (fun k => k == 2 || k == 5) [0, 1, 3, 4, 2, 5, 6, 7, 8, 9, 10, 11, 12, 13, 14, 15, 16, 17, 18, 19] (by decide +kernel) ?_
        simp -implicitDefEqProofs only [go_sem, ↓reduceIte, Nat.reduceEqDiff, Nat.reduceLT, Nat.reduceLeDiff, Nat.reduceAdd, Nat.reduceMul, Nat.reduceSub, reduceCtorEq, Nat.reduceMod, Nat.reduceBEq, Int.reduceBEq, Int.reduceBNe, Int.reduceToNat]
        refine wget_calls (s := ⟨b, 0, 0⟩) (id := id2) (by rw [Go.VL.set_ne n23, set_at]) okb most _ ?_
        intro fl2 hgl2
        simp -implicitDefEqProofs only [go_sem, ↓reduceIte, Nat.reduceEqDiff, Nat.reduceLT, Nat.reduceLeDiff, Nat.reduceAdd, Nat.reduceMul, Nat.reduceSub, reduceCtorEq, Nat.reduceMod, Nat.reduceBEq, Int.reduceBEq, Int.reduceBNe, Int.reduceToNat]
        refine rget_calls (s := ⟨b, 0, 0⟩) (id := id3) (by rw [Go.VL.set_ne n32, set_at]; rfl) okb most _ ?_
        intro fl3 hgl3
        have hoG := getOps_ok (most := most) okb
        generalize getOps most ⟨b, 0, 0⟩ = G at hgl2 hgl3 hoG ⊢
        obtain ⟨L, s9⟩ := G
        simp -implicitDefEqProofs only [go_sem, ↓reduceIte, Nat.reduceEqDiff, Nat.reduceLT, Nat.reduceLeDiff, Nat.reduceAdd, Nat.reduceMul, Nat.reduceSub, reduceCtorEq, Nat.reduceMod, Nat.reduceBEq, Int.reduceBEq, Int.reduceBNe, Int.reduceToNat]
        refine q_call _ (by simp -implicitDefEqProofs only [go_sem, ↓reduceIte, Nat.reduceEqDiff, Nat.reduceLT, Nat.reduceLeDiff, Nat.reduceAdd, Nat.reduceMul, Nat.reduceSub, reduceCtorEq, Nat.reduceMod, Nat.reduceBEq, Int.reduceBEq, Int.reduceBNe, Int.reduceToNat]; exact EqualO_refl L (by dsimp only at hgl2; omega) _) (by decide) rfl ?_
        simp -implicitDefEqProofs only [go_sem, ↓reduceIte, Nat.reduceEqDiff, Nat.reduceLT, Nat.reduceLeDiff, Nat.reduceAdd, Nat.reduceMul, Nat.reduceSub, reduceCtorEq, Nat.reduceMod, Nat.reduceBEq, Int.reduceBEq, Int.reduceBNe, Int.reduceToNat]
        refine q_call _ (by simp -implicitDefEqProofs only [go_sem, ↓reduceIte, Nat.reduceEqDiff, Nat.reduceLT, Nat.reduceLeDiff, Nat.reduceAdd, Nat.reduceMul, Nat.reduceSub, reduceCtorEq, Nat.reduceMod, Nat.reduceBEq, Int.reduceBEq, Int.reduceBNe, Int.reduceToNat]; exact Err_spec (s := s9) (by rw [Go.VL.set_ne n23, set_at])) (by decide) rfl ?_
        have hx : rcells s9 = [.sl .no 1 (encB s9.b), .int .i64 s9.p, .int .i64 s9.e] := rfl
        simp -implicitDefEqProofs only [go_sem, ↓reduceIte, Nat.reduceEqDiff, Nat.reduceLT, Nat.reduceLeDiff, Nat.reduceAdd, Nat.reduceMul, Nat.reduceSub, reduceCtorEq, Nat.reduceMod, Nat.reduceBEq, Int.reduceBEq, Int.reduceBNe, Int.reduceToNat, hx]
        refine q_call _ (by simp -implicitDefEqProofs only [go_sem, ↓reduceIte, Nat.reduceEqDiff, Nat.reduceLT, Nat.reduceLeDiff, Nat.reduceAdd, Nat.reduceMul, Nat.reduceSub, reduceCtorEq, Nat.reduceMod, Nat.reduceBEq, Int.reduceBEq, Int.reduceBNe, Int.reduceToNat]; exact awake_spec _) (by decide) rfl ?_
        simp -implicitDefEqProofs only [go_sem, ↓reduceIte, Nat.reduceEqDiff, Nat.reduceLT, Nat.reduceLeDiff, Nat.reduceAdd, Nat.reduceMul, Nat.reduceSub, reduceCtorEq, Nat.reduceMod, Nat.reduceBEq, Int.reduceBEq, Int.reduceBNe, Int.reduceToNat]
        refine ⟨S, fun i c hi => ?_, hK⟩
        have hB := hi
        skip
        have i2 : i ≠ id2 := fun h => by rw [h, hid2] at hB; cases hB
        rw [Go.VL.set_ne n32] at hid3
        have i3 : i ≠ id3 := fun h => by rw [h, hid3] at hB; cases hB
        rw [Go.VL.set_ne i3, Go.VL.set_ne i2, Go.VL.set_ne i3, Go.VL.set_ne i2]
        exact hB
    · have d2 : (32768 : Int) < (b.length : Int) := by omega
      simp -implicitDefEqProofs only [go_sem, ↓reduceIte, Nat.reduceEqDiff, Nat.reduceLT, Nat.reduceLeDiff, Nat.reduceAdd, Nat.reduceMul, Nat.reduceSub, reduceCtorEq, Nat.reduceMod, Nat.reduceBEq, Int.reduceBEq, Int.reduceBNe, Int.reduceToNat, d1, d2]
      refine awake_spec _ _ ?_
      simp -implicitDefEqProofs only [go_sem, ↓reduceIte, Nat.reduceEqDiff, Nat.reduceLT, Nat.reduceLeDiff, Nat.reduceAdd, Nat.reduceMul, Nat.reduceSub, reduceCtorEq, Nat.reduceMod, Nat.reduceBEq, Int.reduceBEq, Int.reduceBNe, Int.reduceToNat]
      exact ⟨S, fun _ _ h => h, hK⟩
  · have d1 : (32768 : Int) < (weighF 0 l : Nat) := by omega
    simp -implicitDefEqProofs only [go_sem, ↓reduceIte, Nat.reduceEqDiff, Nat.reduceLT, Nat.reduceLeDiff, Nat.reduceAdd, Nat.reduceMul, Nat.reduceSub, reduceCtorEq, Nat.reduceMod, Nat.reduceBEq, Int.reduceBEq, Int.reduceBNe, Int.reduceToNat, d1]
    refine awake_spec _ _ ?_
    simp -implicitDefEqProofs only [go_sem, ↓reduceIte, Nat.reduceEqDiff, Nat.reduceLT, Nat.reduceLeDiff, Nat.reduceAdd, Nat.reduceMul, Nat.reduceSub, reduceCtorEq, Nat.reduceMod, Nat.reduceBEq, Int.reduceBEq, Int.reduceBNe, Int.reduceToNat]
    exact ⟨S, fun _ _ h => h, hK⟩
end Go.Proofs.Ytmplfmhcpkmpbaa.V
