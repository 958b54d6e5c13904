/- Trees: TreeSplits and TreeJoins. -/
import Derived.Test.YtmedhhjbknnfkaaUB
set_option linter.unusedVariables false
set_option linter.unusedSimpArgs false
namespace Go.Proofs.Ytmedhhjbknnfkaa.V
open Go Go.VL

theorem below_snoc {L : List Pr} {k : Nat} {p : Pr} (h : L[k]? = some p) (key : ByteArray) : below key (L.take (k + 1)) = if lt p.1 key then below key (L.take k) ++ [p] else below key (L.take k) := by
  rw [List.take_add_one, h, below_app]
  show _ ++ below key [p] = _
  rw [below_cons]
  cases lt p.1 key
  · exact List.append_nil _
  · rfl
theorem above_snoc {L : List Pr} {k : Nat} {p : Pr} (h : L[k]? = some p) (key : ByteArray) : above key (L.take (k + 1)) = if lt key p.1 then above key (L.take k) ++ [p] else above key (L.take k) := by
  rw [List.take_add_one, h, above_app]
  show _ ++ above key [p] = _
  rw [above_cons]
  cases lt key p.1
  · exact List.append_nil _
  · rfl

set_option maxHeartbeats 1000000 in
theorem RSplit_spec (L : List Pr) (key : ByteArray) (hL : L.length ≤ 1000000) (S : Store) : PRet Try.prog 49 [.sl .no 2 (encPs L), .str key] S (.tup [.sl .no 2 (encPs (below key L)), .sl .no 2 (encPs (above key L))]) := by
  intro K hK
  refine pcalls_of (C := C) (fun d => d == 20 || d == 6 || d == 28 || d == 7) (fun _ => false) Try.func49 rfl rfl (by simp [Try.f49]) ?_
  simp -implicitDefEqProofs only [go_sem, ↓reduceIte, Nat.reduceEqDiff, Nat.reduceLT, Nat.reduceLeDiff, Nat.reduceAdd, Nat.reduceMul, Nat.reduceSub, reduceCtorEq, Nat.reduceMod, Nat.reduceBEq, Int.reduceBEq, Int.reduceBNe, Int.reduceToNat, Try.f49]
  refine vloop (fun e S' => S' = S ∧ ∃ (k : Nat), k ≤ L.length ∧ e 1 = .str key ∧ e 6 = .sl .tail 2 (encPs (below key (L.take k))) ∧ e 7 = .sl .tail 2 (encPs (above key (L.take k))) ∧ e 10 = .sl .no 2 (encPs L) ∧ e 11 = .int .i64 L.length ∧ e 12 = .int .i64 k) (fun e _ => L.length - iv (e 12)) ?_ ?_
  · exact ⟨rfl, 0, Nat.zero_le _, rfl, rfl, rfl, rfl, rfl, rfl⟩
  · rintro J M Q' hJ hM hQ e S' ⟨rfl, k, hk, e1, e6, e7, e10, e11, e12⟩
    by_cases hlt : k < L.length
    · obtain ⟨p, hp⟩ : ∃ p, L[k]? = some p := ⟨_, List.getElem?_eq_getElem hlt⟩
      have hin : (0 : Int) ≤ k ∧ (k : Int) < L.length := by omega
      have hk1 : IntKind.i64.wrap ((k : Int) + 1) = ((k + 1 : Nat) : Int) := wrap64 (by omega) (by omega)
      have h1 := below_snoc hp key
      have h2 := above_snoc hp key
      have l1 := below_len key (L.take k)
      have l2 := above_len key (L.take k)
      rw [List.length_take] at l1 l2
      have hap1 := small32 (k := (below key (L.take k)).length + 1) (by omega)
      have hap2 := small32 (k := (above key (L.take k)).length + 1) (by omega)
      rcases (Bool.eq_false_or_eq_true (lt p.1 key)).symm with c1 | c1
      · rcases (Bool.eq_false_or_eq_true (lt key p.1)).symm with c2 | c2
        · rw [c1] at h1
          rw [c2] at h2
          simp only [Bool.false_eq_true, if_false] at h1 h2
          have c3 : same p.1 key = true := by rw [lt_tri c1 c2, same_refl]
          simp -implicitDefEqProofs only [go_sem, ↓reduceIte, Nat.reduceEqDiff, Nat.reduceLT, Nat.reduceLeDiff, Nat.reduceAdd, Nat.reduceMul, Nat.reduceSub, reduceCtorEq, Nat.reduceMod, Nat.reduceBEq, Int.reduceBEq, Int.reduceBNe, Int.reduceToNat, hin, hlt, e1, e6, e7, e10, e11, e12, getD_encPs hp, c1, c2, c3, hk1]
          refine vnext hJ hM S' (fun _ _ h => h) ⟨rfl, k + 1, hlt, ?_, ?_, ?_, ?_, ?_, ?_⟩ ?_
          · simp -implicitDefEqProofs only [go_sem, ↓reduceIte, Nat.reduceEqDiff, Nat.reduceLT, Nat.reduceLeDiff, Nat.reduceAdd, Nat.reduceMul, Nat.reduceSub, reduceCtorEq, Nat.reduceMod, Nat.reduceBEq, Int.reduceBEq, Int.reduceBNe, Int.reduceToNat, e1]
          · simp -implicitDefEqProofs only [go_sem, ↓reduceIte, Nat.reduceEqDiff, Nat.reduceLT, Nat.reduceLeDiff, Nat.reduceAdd, Nat.reduceMul, Nat.reduceSub, reduceCtorEq, Nat.reduceMod, Nat.reduceBEq, Int.reduceBEq, Int.reduceBNe, Int.reduceToNat, e6]; rw [h1]
          · simp -implicitDefEqProofs only [go_sem, ↓reduceIte, Nat.reduceEqDiff, Nat.reduceLT, Nat.reduceLeDiff, Nat.reduceAdd, Nat.reduceMul, Nat.reduceSub, reduceCtorEq, Nat.reduceMod, Nat.reduceBEq, Int.reduceBEq, Int.reduceBNe, Int.reduceToNat, e7]; rw [h2]
          · simp -implicitDefEqProofs only [go_sem, ↓reduceIte, Nat.reduceEqDiff, Nat.reduceLT, Nat.reduceLeDiff, Nat.reduceAdd, Nat.reduceMul, Nat.reduceSub, reduceCtorEq, Nat.reduceMod, Nat.reduceBEq, Int.reduceBEq, Int.reduceBNe, Int.reduceToNat, e10]
          · simp -implicitDefEqProofs only [go_sem, ↓reduceIte, Nat.reduceEqDiff, Nat.reduceLT, Nat.reduceLeDiff, Nat.reduceAdd, Nat.reduceMul, Nat.reduceSub, reduceCtorEq, Nat.reduceMod, Nat.reduceBEq, Int.reduceBEq, Int.reduceBNe, Int.reduceToNat, e11]
          · simp -implicitDefEqProofs only [go_sem, ↓reduceIte, Nat.reduceEqDiff, Nat.reduceLT, Nat.reduceLeDiff, Nat.reduceAdd, Nat.reduceMul, Nat.reduceSub, reduceCtorEq, Nat.reduceMod, Nat.reduceBEq, Int.reduceBEq, Int.reduceBNe, Int.reduceToNat]
          · simp -implicitDefEqProofs only [go_sem, ↓reduceIte, Nat.reduceEqDiff, Nat.reduceLT, Nat.reduceLeDiff, Nat.reduceAdd, Nat.reduceMul, Nat.reduceSub, reduceCtorEq, Nat.reduceMod, Nat.reduceBEq, Int.reduceBEq, Int.reduceBNe, Int.reduceToNat]
            omega
        · rw [c1] at h1
          rw [c2] at h2
          simp only [Bool.false_eq_true, if_false, if_true] at h1 h2
          have c3 : same p.1 key = false := same_gt c2
          simp -implicitDefEqProofs only [go_sem, ↓reduceIte, Nat.reduceEqDiff, Nat.reduceLT, Nat.reduceLeDiff, Nat.reduceAdd, Nat.reduceMul, Nat.reduceSub, reduceCtorEq, Nat.reduceMod, Nat.reduceBEq, Int.reduceBEq, Int.reduceBNe, Int.reduceToNat, hin, hlt, e1, e6, e7, e10, e11, e12, getD_encPs hp, c1, c2, c3, hk1, hap2]
          refine vnext hJ hM S' (fun _ _ h => h) ⟨rfl, k + 1, hlt, ?_, ?_, ?_, ?_, ?_, ?_⟩ ?_
          · simp -implicitDefEqProofs only [go_sem, ↓reduceIte, Nat.reduceEqDiff, Nat.reduceLT, Nat.reduceLeDiff, Nat.reduceAdd, Nat.reduceMul, Nat.reduceSub, reduceCtorEq, Nat.reduceMod, Nat.reduceBEq, Int.reduceBEq, Int.reduceBNe, Int.reduceToNat, e1]
          · simp -implicitDefEqProofs only [go_sem, ↓reduceIte, Nat.reduceEqDiff, Nat.reduceLT, Nat.reduceLeDiff, Nat.reduceAdd, Nat.reduceMul, Nat.reduceSub, reduceCtorEq, Nat.reduceMod, Nat.reduceBEq, Int.reduceBEq, Int.reduceBNe, Int.reduceToNat, e6]; rw [h1]
          · simp -implicitDefEqProofs only [go_sem, ↓reduceIte, Nat.reduceEqDiff, Nat.reduceLT, Nat.reduceLeDiff, Nat.reduceAdd, Nat.reduceMul, Nat.reduceSub, reduceCtorEq, Nat.reduceMod, Nat.reduceBEq, Int.reduceBEq, Int.reduceBNe, Int.reduceToNat]; rw [h2, encPs_one]
          · simp -implicitDefEqProofs only [go_sem, ↓reduceIte, Nat.reduceEqDiff, Nat.reduceLT, Nat.reduceLeDiff, Nat.reduceAdd, Nat.reduceMul, Nat.reduceSub, reduceCtorEq, Nat.reduceMod, Nat.reduceBEq, Int.reduceBEq, Int.reduceBNe, Int.reduceToNat, e10]
          · simp -implicitDefEqProofs only [go_sem, ↓reduceIte, Nat.reduceEqDiff, Nat.reduceLT, Nat.reduceLeDiff, Nat.reduceAdd, Nat.reduceMul, Nat.reduceSub, reduceCtorEq, Nat.reduceMod, Nat.reduceBEq, Int.reduceBEq, Int.reduceBNe, Int.reduceToNat, e11]
          · simp -implicitDefEqProofs only [go_sem, ↓reduceIte, Nat.reduceEqDiff, Nat.reduceLT, Nat.reduceLeDiff, Nat.reduceAdd, Nat.reduceMul, Nat.reduceSub, reduceCtorEq, Nat.reduceMod, Nat.reduceBEq, Int.reduceBEq, Int.reduceBNe, Int.reduceToNat]
          · simp -implicitDefEqProofs only [go_sem, ↓reduceIte, Nat.reduceEqDiff, Nat.reduceLT, Nat.reduceLeDiff, Nat.reduceAdd, Nat.reduceMul, Nat.reduceSub, reduceCtorEq, Nat.reduceMod, Nat.reduceBEq, Int.reduceBEq, Int.reduceBNe, Int.reduceToNat]
            omega
      · have c2 := lt_asym c1
        rw [c1] at h1
        rw [c2] at h2
        simp only [Bool.false_eq_true, if_false, if_true] at h1 h2
        simp -implicitDefEqProofs only [go_sem, ↓reduceIte, Nat.reduceEqDiff, Nat.reduceLT, Nat.reduceLeDiff, Nat.reduceAdd, Nat.reduceMul, Nat.reduceSub, reduceCtorEq, Nat.reduceMod, Nat.reduceBEq, Int.reduceBEq, Int.reduceBNe, Int.reduceToNat, hin, hlt, e1, e6, e7, e10, e11, e12, getD_encPs hp, c1, c2, hk1, hap1]
        refine vnext hJ hM S' (fun _ _ h => h) ⟨rfl, k + 1, hlt, ?_, ?_, ?_, ?_, ?_, ?_⟩ ?_
        · simp -implicitDefEqProofs only [go_sem, ↓reduceIte, Nat.reduceEqDiff, Nat.reduceLT, Nat.reduceLeDiff, Nat.reduceAdd, Nat.reduceMul, Nat.reduceSub, reduceCtorEq, Nat.reduceMod, Nat.reduceBEq, Int.reduceBEq, Int.reduceBNe, Int.reduceToNat, e1]
        · simp -implicitDefEqProofs only [go_sem, ↓reduceIte, Nat.reduceEqDiff, Nat.reduceLT, Nat.reduceLeDiff, Nat.reduceAdd, Nat.reduceMul, Nat.reduceSub, reduceCtorEq, Nat.reduceMod, Nat.reduceBEq, Int.reduceBEq, Int.reduceBNe, Int.reduceToNat]; rw [h1, encPs_one]
        · simp -implicitDefEqProofs only [go_sem, ↓reduceIte, Nat.reduceEqDiff, Nat.reduceLT, Nat.reduceLeDiff, Nat.reduceAdd, Nat.reduceMul, Nat.reduceSub, reduceCtorEq, Nat.reduceMod, Nat.reduceBEq, Int.reduceBEq, Int.reduceBNe, Int.reduceToNat, e7]; rw [h2]
        · simp -implicitDefEqProofs only [go_sem, ↓reduceIte, Nat.reduceEqDiff, Nat.reduceLT, Nat.reduceLeDiff, Nat.reduceAdd, Nat.reduceMul, Nat.reduceSub, reduceCtorEq, Nat.reduceMod, Nat.reduceBEq, Int.reduceBEq, Int.reduceBNe, Int.reduceToNat, e10]
        · simp -implicitDefEqProofs only [go_sem, ↓reduceIte, Nat.reduceEqDiff, Nat.reduceLT, Nat.reduceLeDiff, Nat.reduceAdd, Nat.reduceMul, Nat.reduceSub, reduceCtorEq, Nat.reduceMod, Nat.reduceBEq, Int.reduceBEq, Int.reduceBNe, Int.reduceToNat, e11]
        · simp -implicitDefEqProofs only [go_sem, ↓reduceIte, Nat.reduceEqDiff, Nat.reduceLT, Nat.reduceLeDiff, Nat.reduceAdd, Nat.reduceMul, Nat.reduceSub, reduceCtorEq, Nat.reduceMod, Nat.reduceBEq, Int.reduceBEq, Int.reduceBNe, Int.reduceToNat]
        · simp -implicitDefEqProofs only [go_sem, ↓reduceIte, Nat.reduceEqDiff, Nat.reduceLT, Nat.reduceLeDiff, Nat.reduceAdd, Nat.reduceMul, Nat.reduceSub, reduceCtorEq, Nat.reduceMod, Nat.reduceBEq, Int.reduceBEq, Int.reduceBNe, Int.reduceToNat]
          omega
    · have hcc : ¬ (k : Int) < L.length := by omega
      rw [List.take_of_length_le (by omega)] at e6 e7
      simp -implicitDefEqProofs only [go_sem, ↓reduceIte, Nat.reduceEqDiff, Nat.reduceLT, Nat.reduceLeDiff, Nat.reduceAdd, Nat.reduceMul, Nat.reduceSub, reduceCtorEq, Nat.reduceMod, Nat.reduceBEq, Int.reduceBEq, Int.reduceBNe, Int.reduceToNat, hcc, e11, e12]
      refine hQ _ _ _ ?_
      simp -implicitDefEqProofs only [go_sem, ↓reduceIte, Nat.reduceEqDiff, Nat.reduceLT, Nat.reduceLeDiff, Nat.reduceAdd, Nat.reduceMul, Nat.reduceSub, reduceCtorEq, Nat.reduceMod, Nat.reduceBEq, Int.reduceBEq, Int.reduceBNe, Int.reduceToNat, e6, e7]
      exact ⟨S', fun _ _ h => h, hK⟩

set_option maxHeartbeats 1000000 in
theorem splits_law (l : List Do) (key : ByteArray) (S : Store) : PRet Try.prog 11 [.sl .no 3 (encDos l), .str key] S (.bool true) := by
  intro K hK
  refine pcalls_of (C := C) (fun _ => false) (fun _ => false) Try.func11 rfl rfl (by simp [Try.f11]) ?_
  simp -implicitDefEqProofs only [go_sem, ↓reduceIte, Nat.reduceEqDiff, Nat.reduceLT, Nat.reduceLeDiff, Nat.reduceAdd, Nat.reduceMul, Nat.reduceSub, reduceCtorEq, Nat.reduceMod, Nat.reduceBEq, Int.reduceBEq, Int.reduceBNe, Int.reduceToNat, Try.f11]
  refine short_spec [l] (by simp) _ _ ?_
  cases h1 : shortF 0 [l]
  · simp -implicitDefEqProofs only [go_sem, ↓reduceIte, Nat.reduceEqDiff, Nat.reduceLT, Nat.reduceLeDiff, Nat.reduceAdd, Nat.reduceMul, Nat.reduceSub, reduceCtorEq, Nat.reduceMod, Nat.reduceBEq, Int.reduceBEq, Int.reduceBNe, Int.reduceToNat, h1]
    refine awake_spec _ _ ?_
    simp -implicitDefEqProofs only [go_sem, ↓reduceIte, Nat.reduceEqDiff, Nat.reduceLT, Nat.reduceLeDiff, Nat.reduceAdd, Nat.reduceMul, Nat.reduceSub, reduceCtorEq, Nat.reduceMod, Nat.reduceBEq, Int.reduceBEq, Int.reduceBNe, Int.reduceToNat]
    exact ⟨S, fun _ _ h => h, hK⟩
  · have hl : l.length ≤ 300 := short_len _ _ h1 _ (by simp)
    by_cases hk : (16384 : Int) < (key.size : Int)
    · simp -implicitDefEqProofs only [go_sem, ↓reduceIte, Nat.reduceEqDiff, Nat.reduceLT, Nat.reduceLeDiff, Nat.reduceAdd, Nat.reduceMul, Nat.reduceSub, reduceCtorEq, Nat.reduceMod, Nat.reduceBEq, Int.reduceBEq, Int.reduceBNe, Int.reduceToNat, h1, hk]
      refine awake_spec _ _ ?_
      simp -implicitDefEqProofs only [go_sem, ↓reduceIte, Nat.reduceEqDiff, Nat.reduceLT, Nat.reduceLeDiff, Nat.reduceAdd, Nat.reduceMul, Nat.reduceSub, reduceCtorEq, Nat.reduceMod, Nat.reduceBEq, Int.reduceBEq, Int.reduceBNe, Int.reduceToNat]
      exact ⟨S, fun _ _ h => h, hK⟩
    · simp -implicitDefEqProofs only [go_sem, ↓reduceIte, Nat.reduceEqDiff, Nat.reduceLT, Nat.reduceLeDiff, Nat.reduceAdd, Nat.reduceMul, Nat.reduceSub, reduceCtorEq, Nat.reduceMod, Nat.reduceBEq, Int.reduceBEq, Int.reduceBNe, Int.reduceToNat, h1, hk]
      refine made_calls l (by omega) _ _ fun t ot lt0 => ?_
      obtain ⟨s1, s2⟩ := doneAll_ok l [] List.Pairwise.nil
      simp only [List.length_nil] at s2
      rw [← lt0] at s1 s2 ⊢
      obtain ⟨a, b, a1, b1, a2, b2, h3⟩ := Split_spec (Tr.mk t) ot s1 (by omega) key
      have la := below_len key t.list
      have lb := above_len key t.list
      have sa := sorted_below s1 key
      have sb := sorted_above s1 key
      rw [← a2] at la sa
      rw [← b2] at lb sb
      have hj : joinQ a.list b.list = true := by
        rw [joinQ_iff, a2, b2]
        intro p hp q hq
        exact lt_trans (mem_below.1 hp).2 (mem_above.1 hq).2
      obtain ⟨r, r1, r2, r3⟩ := Join_spec (Tr.mk a) (Tr.mk b) a1 b1 sa sb (by omega)
      have r2' : r.list = dropL key t.list := by rw [r2, a2, b2, drop_two s1]
      have sr := sorted_drop s1 key
      have lr := drop_len t.list key
      rw [← r2'] at sr lr
      simp -implicitDefEqProofs only [go_sem, ↓reduceIte, Nat.reduceEqDiff, Nat.reduceLT, Nat.reduceLeDiff, Nat.reduceAdd, Nat.reduceMul, Nat.reduceSub, reduceCtorEq, Nat.reduceMod, Nat.reduceBEq, Int.reduceBEq, Int.reduceBNe, Int.reduceToNat]
      refine h3 _ _ ?_
      simp -implicitDefEqProofs only [go_sem, ↓reduceIte, Nat.reduceEqDiff, Nat.reduceLT, Nat.reduceLeDiff, Nat.reduceAdd, Nat.reduceMul, Nat.reduceSub, reduceCtorEq, Nat.reduceMod, Nat.reduceBEq, Int.reduceBEq, Int.reduceBNe, Int.reduceToNat]
      refine RSplit_spec t.list key (by omega) _ _ ?_
      simp -implicitDefEqProofs only [go_sem, ↓reduceIte, Nat.reduceEqDiff, Nat.reduceLT, Nat.reduceLeDiff, Nat.reduceAdd, Nat.reduceMul, Nat.reduceSub, reduceCtorEq, Nat.reduceMod, Nat.reduceBEq, Int.reduceBEq, Int.reduceBNe, Int.reduceToNat]
      refine Get_ref t.list key (by omega) _ _ ?_
      simp -implicitDefEqProofs only [go_sem, ↓reduceIte, Nat.reduceEqDiff, Nat.reduceLT, Nat.reduceLeDiff, Nat.reduceAdd, Nat.reduceMul, Nat.reduceSub, reduceCtorEq, Nat.reduceMod, Nat.reduceBEq, Int.reduceBEq, Int.reduceBNe, Int.reduceToNat]
      refine r3 _ _ ?_
      rw [hj]
      simp -implicitDefEqProofs only [go_sem, ↓reduceIte, Nat.reduceEqDiff, Nat.reduceLT, Nat.reduceLeDiff, Nat.reduceAdd, Nat.reduceMul, Nat.reduceSub, reduceCtorEq, Nat.reduceMod, Nat.reduceBEq, Int.reduceBEq, Int.reduceBNe, Int.reduceToNat]
      refine All_spec (Tr.mk a) a1 sa (by omega) _ _ ?_
      rw [a2] at la ⊢
      simp -implicitDefEqProofs only [go_sem, ↓reduceIte, Nat.reduceEqDiff, Nat.reduceLT, Nat.reduceLeDiff, Nat.reduceAdd, Nat.reduceMul, Nat.reduceSub, reduceCtorEq, Nat.reduceMod, Nat.reduceBEq, Int.reduceBEq, Int.reduceBNe, Int.reduceToNat]
      refine Same_refl _ (by omega) _ _ ?_
      simp -implicitDefEqProofs only [go_sem, ↓reduceIte, Nat.reduceEqDiff, Nat.reduceLT, Nat.reduceLeDiff, Nat.reduceAdd, Nat.reduceMul, Nat.reduceSub, reduceCtorEq, Nat.reduceMod, Nat.reduceBEq, Int.reduceBEq, Int.reduceBNe, Int.reduceToNat]
      refine All_spec (Tr.mk b) b1 sb (by omega) _ _ ?_
      rw [b2] at lb ⊢
      simp -implicitDefEqProofs only [go_sem, ↓reduceIte, Nat.reduceEqDiff, Nat.reduceLT, Nat.reduceLeDiff, Nat.reduceAdd, Nat.reduceMul, Nat.reduceSub, reduceCtorEq, Nat.reduceMod, Nat.reduceBEq, Int.reduceBEq, Int.reduceBNe, Int.reduceToNat]
      refine Same_refl _ (by omega) _ _ ?_
      simp -implicitDefEqProofs only [go_sem, ↓reduceIte, Nat.reduceEqDiff, Nat.reduceLT, Nat.reduceLeDiff, Nat.reduceAdd, Nat.reduceMul, Nat.reduceSub, reduceCtorEq, Nat.reduceMod, Nat.reduceBEq, Int.reduceBEq, Int.reduceBNe, Int.reduceToNat, beq_self_eq_true, Bool.and_self]
      refine All_spec (Tr.mk r) r1 sr (by omega) _ _ ?_
      simp -implicitDefEqProofs only [go_sem, ↓reduceIte, Nat.reduceEqDiff, Nat.reduceLT, Nat.reduceLeDiff, Nat.reduceAdd, Nat.reduceMul, Nat.reduceSub, reduceCtorEq, Nat.reduceMod, Nat.reduceBEq, Int.reduceBEq, Int.reduceBNe, Int.reduceToNat]
      refine Without_spec t.list key (by omega) _ _ ?_
      rw [r2'] at lr ⊢
      simp -implicitDefEqProofs only [go_sem, ↓reduceIte, Nat.reduceEqDiff, Nat.reduceLT, Nat.reduceLeDiff, Nat.reduceAdd, Nat.reduceMul, Nat.reduceSub, reduceCtorEq, Nat.reduceMod, Nat.reduceBEq, Int.reduceBEq, Int.reduceBNe, Int.reduceToNat]
      refine Same_refl _ (by omega) _ _ ?_
      simp -implicitDefEqProofs only [go_sem, ↓reduceIte, Nat.reduceEqDiff, Nat.reduceLT, Nat.reduceLeDiff, Nat.reduceAdd, Nat.reduceMul, Nat.reduceSub, reduceCtorEq, Nat.reduceMod, Nat.reduceBEq, Int.reduceBEq, Int.reduceBNe, Int.reduceToNat]
      refine awake_spec _ _ ?_
      simp -implicitDefEqProofs only [go_sem, ↓reduceIte, Nat.reduceEqDiff, Nat.reduceLT, Nat.reduceLeDiff, Nat.reduceAdd, Nat.reduceMul, Nat.reduceSub, reduceCtorEq, Nat.reduceMod, Nat.reduceBEq, Int.reduceBEq, Int.reduceBNe, Int.reduceToNat]
      exact ⟨S, fun _ _ h => h, hK⟩

set_option maxHeartbeats 1000000 in
theorem joins_law (l m : List Do) (S : Store) : PRet Try.prog 10 [.sl .no 3 (encDos l), .sl .no 3 (encDos m)] S (.bool true) := by
  intro K hK
  refine pcalls_of (C := C) (fun _ => false) (fun _ => false) Try.func10 rfl rfl (by simp [Try.f10]) ?_
  simp -implicitDefEqProofs only [go_sem, ↓reduceIte, Nat.reduceEqDiff, Nat.reduceLT, Nat.reduceLeDiff, Nat.reduceAdd, Nat.reduceMul, Nat.reduceSub, reduceCtorEq, Nat.reduceMod, Nat.reduceBEq, Int.reduceBEq, Int.reduceBNe, Int.reduceToNat, Try.f10]
  refine short_spec [l, m] (by simp) _ _ ?_
  cases h1 : shortF 0 [l, m]
  · simp -implicitDefEqProofs only [go_sem, ↓reduceIte, Nat.reduceEqDiff, Nat.reduceLT, Nat.reduceLeDiff, Nat.reduceAdd, Nat.reduceMul, Nat.reduceSub, reduceCtorEq, Nat.reduceMod, Nat.reduceBEq, Int.reduceBEq, Int.reduceBNe, Int.reduceToNat, h1]
    refine awake_spec _ _ ?_
    simp -implicitDefEqProofs only [go_sem, ↓reduceIte, Nat.reduceEqDiff, Nat.reduceLT, Nat.reduceLeDiff, Nat.reduceAdd, Nat.reduceMul, Nat.reduceSub, reduceCtorEq, Nat.reduceMod, Nat.reduceBEq, Int.reduceBEq, Int.reduceBNe, Int.reduceToNat]
    exact ⟨S, fun _ _ h => h, hK⟩
  · have hl : l.length ≤ 300 := short_len _ _ h1 _ (by simp)
    have hm : m.length ≤ 300 := short_len _ _ h1 _ (by simp)
    simp -implicitDefEqProofs only [go_sem, ↓reduceIte, Nat.reduceEqDiff, Nat.reduceLT, Nat.reduceLeDiff, Nat.reduceAdd, Nat.reduceMul, Nat.reduceSub, reduceCtorEq, Nat.reduceMod, Nat.reduceBEq, Int.reduceBEq, Int.reduceBNe, Int.reduceToNat, h1]
    refine made_calls l (by omega) _ _ fun a oa la => ?_
    simp -implicitDefEqProofs only [go_sem, ↓reduceIte, Nat.reduceEqDiff, Nat.reduceLT, Nat.reduceLeDiff, Nat.reduceAdd, Nat.reduceMul, Nat.reduceSub, reduceCtorEq, Nat.reduceMod, Nat.reduceBEq, Int.reduceBEq, Int.reduceBNe, Int.reduceToNat]
    refine made_calls m (by omega) _ _ fun b ob lb => ?_
    obtain ⟨sa, na⟩ := doneAll_ok l [] List.Pairwise.nil
    obtain ⟨sb, nb⟩ := doneAll_ok m [] List.Pairwise.nil
    simp only [List.length_nil] at na nb
    rw [← la] at sa na ⊢
    rw [← lb] at sb nb ⊢
    obtain ⟨r, r1, r2, r3⟩ := Join_spec (Tr.mk a) (Tr.mk b) oa ob sa sb (by omega)
    simp -implicitDefEqProofs only [go_sem, ↓reduceIte, Nat.reduceEqDiff, Nat.reduceLT, Nat.reduceLeDiff, Nat.reduceAdd, Nat.reduceMul, Nat.reduceSub, reduceCtorEq, Nat.reduceMod, Nat.reduceBEq, Int.reduceBEq, Int.reduceBNe, Int.reduceToNat]
    refine r3 _ _ ?_
    rcases (Bool.eq_false_or_eq_true (joinQ a.list b.list)).symm with hj | hj
    · rw [hj]
      simp -implicitDefEqProofs only [go_sem, ↓reduceIte, Nat.reduceEqDiff, Nat.reduceLT, Nat.reduceLeDiff, Nat.reduceAdd, Nat.reduceMul, Nat.reduceSub, reduceCtorEq, Nat.reduceMod, Nat.reduceBEq, Int.reduceBEq, Int.reduceBNe, Int.reduceToNat]
      refine RJoin_spec a.list b.list (by omega) (by omega) _ _ ?_
      rw [hj]
      simp -implicitDefEqProofs only [go_sem, ↓reduceIte, Nat.reduceEqDiff, Nat.reduceLT, Nat.reduceLeDiff, Nat.reduceAdd, Nat.reduceMul, Nat.reduceSub, reduceCtorEq, Nat.reduceMod, Nat.reduceBEq, Int.reduceBEq, Int.reduceBNe, Int.reduceToNat]
      refine awake_spec _ _ ?_
      simp -implicitDefEqProofs only [go_sem, ↓reduceIte, Nat.reduceEqDiff, Nat.reduceLT, Nat.reduceLeDiff, Nat.reduceAdd, Nat.reduceMul, Nat.reduceSub, reduceCtorEq, Nat.reduceMod, Nat.reduceBEq, Int.reduceBEq, Int.reduceBNe, Int.reduceToNat]
      exact ⟨S, fun _ _ h => h, hK⟩
    · have sr := sorted_join sa sb hj
      have lr : r.list.length ≤ 1000000 := by rw [r2, List.length_append]; omega
      rw [hj]
      simp -implicitDefEqProofs only [go_sem, ↓reduceIte, Nat.reduceEqDiff, Nat.reduceLT, Nat.reduceLeDiff, Nat.reduceAdd, Nat.reduceMul, Nat.reduceSub, reduceCtorEq, Nat.reduceMod, Nat.reduceBEq, Int.reduceBEq, Int.reduceBNe, Int.reduceToNat]
      refine RJoin_spec a.list b.list (by omega) (by omega) _ _ ?_
      rw [hj]
      simp -implicitDefEqProofs only [go_sem, ↓reduceIte, Nat.reduceEqDiff, Nat.reduceLT, Nat.reduceLeDiff, Nat.reduceAdd, Nat.reduceMul, Nat.reduceSub, reduceCtorEq, Nat.reduceMod, Nat.reduceBEq, Int.reduceBEq, Int.reduceBNe, Int.reduceToNat]
      refine All_spec (Tr.mk r) r1 (by rw [r2]; exact sr) lr _ _ ?_
      rw [r2] at lr ⊢
      simp -implicitDefEqProofs only [go_sem, ↓reduceIte, Nat.reduceEqDiff, Nat.reduceLT, Nat.reduceLeDiff, Nat.reduceAdd, Nat.reduceMul, Nat.reduceSub, reduceCtorEq, Nat.reduceMod, Nat.reduceBEq, Int.reduceBEq, Int.reduceBNe, Int.reduceToNat]
      refine Same_refl _ lr _ _ ?_
      simp -implicitDefEqProofs only [go_sem, ↓reduceIte, Nat.reduceEqDiff, Nat.reduceLT, Nat.reduceLeDiff, Nat.reduceAdd, Nat.reduceMul, Nat.reduceSub, reduceCtorEq, Nat.reduceMod, Nat.reduceBEq, Int.reduceBEq, Int.reduceBNe, Int.reduceToNat]
      refine shallow_spec (Tr.mk r) r1 (by rw [r2]; exact lr) _ _ ?_
      simp -implicitDefEqProofs only [go_sem, ↓reduceIte, Nat.reduceEqDiff, Nat.reduceLT, Nat.reduceLeDiff, Nat.reduceAdd, Nat.reduceMul, Nat.reduceSub, reduceCtorEq, Nat.reduceMod, Nat.reduceBEq, Int.reduceBEq, Int.reduceBNe, Int.reduceToNat]
      refine awake_spec _ _ ?_
      simp -implicitDefEqProofs only [go_sem, ↓reduceIte, Nat.reduceEqDiff, Nat.reduceLT, Nat.reduceLeDiff, Nat.reduceAdd, Nat.reduceMul, Nat.reduceSub, reduceCtorEq, Nat.reduceMod, Nat.reduceBEq, Int.reduceBEq, Int.reduceBNe, Int.reduceToNat]
      exact ⟨S, fun _ _ h => h, hK⟩
end Go.Proofs.Ytmedhhjbknnfkaa.V
