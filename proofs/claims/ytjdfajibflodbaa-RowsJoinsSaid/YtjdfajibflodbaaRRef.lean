/- Rows: what entries bring, by the document. -/
import Derived.Test.YtjdfajibflodbaaRR
set_option linter.unusedVariables false
set_option linter.unusedSimpArgs false
namespace Go.Proofs.Ytjdfajibflodbaa.V
open Go Go.VL

theorem filter_take {l : Lg} (h : chk l = true) {x : Int} (hx : l.i < x) : l.rows.filter (fun e => decide (e.i < x)) = l.rows.take (x - l.i - 1).toNat := by
  obtain ⟨c1, c2, c3, c4, hr⟩ := chk_iff h
  have key : ∀ (rows : List Ent) (i t : Int), rise i t rows = true → i < x → rows.filter (fun e => decide (e.i < x)) = rows.take (x - i - 1).toNat := by
    intro rows
    induction rows with
    | nil => intro i t _ _; simp
    | cons e rows ih =>
      intro i t hr hi
      have hr0 := hr
      simp only [rise, Bool.and_eq_true, beq_iff_eq] at hr
      have b2 := hr.1.1.1.1.2
      by_cases hx0 : x = i + 1
      · have hall : ∀ e' ∈ e :: rows, ¬ decide (e'.i < x) = true := by
          intro e' he'
          obtain ⟨k, hk⟩ := List.mem_iff_getElem?.1 he'
          have := (rise_get _ _ _ hr0 k e' hk).1
          simp
          omega
        rw [List.filter_eq_nil_iff.2 hall, show (x - i - 1).toNat = 0 by omega]
        rfl
      · have : decide (e.i < x) = true := by simp; omega
        have hc := ih e.i e.t hr.2 (by omega)
        rw [List.filter_cons, if_pos this, hc]
        rw [show (x - i - 1).toNat = (x - e.i - 1).toNat + 1 by omega]
        rfl
  exact key l.rows l.i l.t hr hx

set_option maxHeartbeats 2000000 in
theorem refJoin_spec (l : Lg) (x t : Int) (more : List Ent) (h : chk l = true) (hl : l.rows.length ≤ 100000) (hm : more.length ≤ 100000) (hf : FineL more) (S : Store) :
    PRet Try.prog 19 [encG l, .int .i64 x, .int .i64 t, .sl .no 3 (encL more)] S (encJ (joinF l x t more)) := by
  intro K hK
  refine pcalls_of (C := C) (fun d => d == 113 || d == 127 || d == 130 || d == 134 || d == 138) (fun d => d == 22) Try.func19 rfl rfl (by simp [Try.f19]) ?_
  obtain ⟨c1, c2, c3, c4, hr⟩ := chk_iff h
  have hb := lastF_le h
  simp -implicitDefEqProofs only [go_sem, ↓reduceIte, Nat.reduceEqDiff, Nat.reduceLT, Nat.reduceLeDiff, Nat.reduceAdd, Nat.reduceMul, Nat.reduceSub, reduceCtorEq, Nat.reduceMod, Nat.reduceBEq, Int.reduceBEq, Int.reduceBNe, Int.reduceToNat, Try.f19, encG]
  refine refLast_spec l hl _ _ ?_
  simp -implicitDefEqProofs only [go_sem, ↓reduceIte, Nat.reduceEqDiff, Nat.reduceLT, Nat.reduceLeDiff, Nat.reduceAdd, Nat.reduceMul, Nat.reduceSub, reduceCtorEq, Nat.reduceMod, Nat.reduceBEq, Int.reduceBEq, Int.reduceBNe, Int.reduceToNat]
  refine refAt_spec l x h hl _ _ ?_
  simp -implicitDefEqProofs only [go_sem, ↓reduceIte, Nat.reduceEqDiff, Nat.reduceLT, Nat.reduceLeDiff, Nat.reduceAdd, Nat.reduceMul, Nat.reduceSub, reduceCtorEq, Nat.reduceMod, Nat.reduceBEq, Int.reduceBEq, Int.reduceBNe, Int.reduceToNat]
  refine near_spec _ _ _ _ ?_
  have bad : meets l x t more = false → ∃ S', (∀ (i : Nat) (c : List PV), S' i = some c → S i = some c) ∧ K (encJ ⟨l, 0, [], false⟩) S' := by
    intro hmt
    have hjf : joinF l x t more = ⟨l, 0, [], false⟩ := by unfold joinF; rw [h, hmt]; rfl
    rw [hjf] at hK
    exact ⟨S, fun _ _ h => h, hK⟩
  cases a1 : within t 0
  · simp -implicitDefEqProofs only [go_sem, ↓reduceIte, Nat.reduceEqDiff, Nat.reduceLT, Nat.reduceLeDiff, Nat.reduceAdd, Nat.reduceMul, Nat.reduceSub, reduceCtorEq, Nat.reduceMod, Nat.reduceBEq, Int.reduceBEq, Int.reduceBNe, Int.reduceToNat, a1]
    exact bad (by simp [meets, a1])
  · simp -implicitDefEqProofs only [go_sem, ↓reduceIte, Nat.reduceEqDiff, Nat.reduceLT, Nat.reduceLeDiff, Nat.reduceAdd, Nat.reduceMul, Nat.reduceSub, reduceCtorEq, Nat.reduceMod, Nat.reduceBEq, Int.reduceBEq, Int.reduceBNe, Int.reduceToNat, a1]
    refine On_spec x t more hm hf _ _ ?_
    cases a2 : rise x t more
    · simp -implicitDefEqProofs only [go_sem, ↓reduceIte, Nat.reduceEqDiff, Nat.reduceLT, Nat.reduceLeDiff, Nat.reduceAdd, Nat.reduceMul, Nat.reduceSub, reduceCtorEq, Nat.reduceMod, Nat.reduceBEq, Int.reduceBEq, Int.reduceBNe, Int.reduceToNat, a2]
      exact bad (by simp [meets, a2])
    · simp -implicitDefEqProofs only [go_sem, ↓reduceIte, Nat.reduceEqDiff, Nat.reduceLT, Nat.reduceLeDiff, Nat.reduceAdd, Nat.reduceMul, Nat.reduceSub, reduceCtorEq, Nat.reduceMod, Nat.reduceBEq, Int.reduceBEq, Int.reduceBNe, Int.reduceToNat, a2]
      by_cases a3 : (lastF l.i l.t l.rows).1 < x
      · simp -implicitDefEqProofs only [go_sem, ↓reduceIte, Nat.reduceEqDiff, Nat.reduceLT, Nat.reduceLeDiff, Nat.reduceAdd, Nat.reduceMul, Nat.reduceSub, reduceCtorEq, Nat.reduceMod, Nat.reduceBEq, Int.reduceBEq, Int.reduceBNe, Int.reduceToNat, a3]
        exact bad (by simp [meets]; omega)
      · simp -implicitDefEqProofs only [go_sem, ↓reduceIte, Nat.reduceEqDiff, Nat.reduceLT, Nat.reduceLeDiff, Nat.reduceAdd, Nat.reduceMul, Nat.reduceSub, reduceCtorEq, Nat.reduceMod, Nat.reduceBEq, Int.reduceBEq, Int.reduceBNe, Int.reduceToNat, a3]
        by_cases a4 : l.i ≤ x
        · simp -implicitDefEqProofs only [go_sem, ↓reduceIte, Nat.reduceEqDiff, Nat.reduceLT, Nat.reduceLeDiff, Nat.reduceAdd, Nat.reduceMul, Nat.reduceSub, reduceCtorEq, Nat.reduceMod, Nat.reduceBEq, Int.reduceBEq, Int.reduceBNe, Int.reduceToNat, a4]
          cases a5 : (atF l x).2
          · simp -implicitDefEqProofs only [go_sem, ↓reduceIte, Nat.reduceEqDiff, Nat.reduceLT, Nat.reduceLeDiff, Nat.reduceAdd, Nat.reduceMul, Nat.reduceSub, reduceCtorEq, Nat.reduceMod, Nat.reduceBEq, Int.reduceBEq, Int.reduceBNe, Int.reduceToNat, a5]
            exact bad (by simp [meets, a5]; omega)
          · simp -implicitDefEqProofs only [go_sem, ↓reduceIte, Nat.reduceEqDiff, Nat.reduceLT, Nat.reduceLeDiff, Nat.reduceAdd, Nat.reduceMul, Nat.reduceSub, reduceCtorEq, Nat.reduceMod, Nat.reduceBEq, Int.reduceBEq, Int.reduceBNe, Int.reduceToNat, a5]
            cases a6 : (atF l x).1 != t
            · simp -implicitDefEqProofs only [go_sem, ↓reduceIte, Nat.reduceEqDiff, Nat.reduceLT, Nat.reduceLeDiff, Nat.reduceAdd, Nat.reduceMul, Nat.reduceSub, reduceCtorEq, Nat.reduceMod, Nat.reduceBEq, Int.reduceBEq, Int.reduceBNe, Int.reduceToNat, a6]
              have hmt : meets l x t more = true := by
                simp only [bne_eq_false_iff_eq] at a6
                simp [meets, a1, a2, a5, a6]
                omega
              refine vloop (fun e S' => S' = S ∧ ∃ k : Nat, k ≤ more.length ∧ x + k ≤ (lastF l.i l.t l.rows).1 ∧ e 68 = .sl .no 3 (encL more) ∧ e 69 = .int .i64 more.length ∧ e 70 = .int .i64 k ∧ e 4 = .ip [.int .i64 l.i, .int .i64 l.t, .sl .no 3 (encL l.rows)] 0 ∧ e 8 = .fresh 3 ∧ e 3 = .sl .no 3 (encL more) ∧ joinGo l more = joinGo l (more.drop k)) (fun e _ => more.length - iv (e 70)) ?_ ?_
              · exact ⟨rfl, 0, Nat.zero_le _, by omega, rfl, rfl, rfl, rfl, rfl, rfl, rfl⟩
              · rintro J M Q' hJ hM hQ e S' ⟨rfl, k, hk, hxk, h68, h69, h70, h4, h8, h3, hj⟩
                simp -implicitDefEqProofs only [go_sem, ↓reduceIte, Nat.reduceEqDiff, Nat.reduceLT, Nat.reduceLeDiff, Nat.reduceAdd, Nat.reduceMul, Nat.reduceSub, reduceCtorEq, Nat.reduceMod, Nat.reduceBEq, Int.reduceBEq, Int.reduceBNe, Int.reduceToNat, h69, h70]
                by_cases hlt : k < more.length
                · obtain ⟨y, hy⟩ : ∃ y, more[k]? = some y := ⟨_, List.getElem?_eq_getElem hlt⟩
                  have hdy : more.drop k = y :: more.drop (k + 1) := by
                    rw [List.drop_eq_getElem_cons hlt]
                    rw [List.getElem?_eq_getElem hlt] at hy
                    injection hy with hy
                    rw [hy]
                  rw [hdy] at hj
                  obtain ⟨y1, y2, y3, y4, y5, y6⟩ := rise_get more x t a2 k y hy
                  have y7 := within_iff.1 y2
                  have y8 := within_iff.1 y3
                  have hin : (0 : Int) ≤ k ∧ (k : Int) < more.length := by omega
                  have hk1 : IntKind.i64.wrap ((k : Int) + 1) = ((k + 1 : Nat) : Int) := wrap64 (by omega) (by omega)
                  simp -implicitDefEqProofs only [go_sem, ↓reduceIte, Nat.reduceEqDiff, Nat.reduceLT, Nat.reduceLeDiff, Nat.reduceAdd, Nat.reduceMul, Nat.reduceSub, reduceCtorEq, Nat.reduceMod, Nat.reduceBEq, Int.reduceBEq, Int.reduceBNe, Int.reduceToNat, hin, h68, h69, h70, h4, getD_encL hy, encE]
                  refine refAt_spec l y.i h hl _ _ ?_
                  simp -implicitDefEqProofs only [go_sem, ↓reduceIte, Nat.reduceEqDiff, Nat.reduceLT, Nat.reduceLeDiff, Nat.reduceAdd, Nat.reduceMul, Nat.reduceSub, reduceCtorEq, Nat.reduceMod, Nat.reduceBEq, Int.reduceBEq, Int.reduceBNe, Int.reduceToNat, h4]
                  have skip : (y.i ≤ l.i ∨ ((atF l y.i).2 = true ∧ (atF l y.i).1 = y.t)) → x + ((k + 1 : Nat) : Int) ≤ (lastF l.i l.t l.rows).1 ∧ joinGo l more = joinGo l (more.drop (k + 1)) := by
                    intro hs
                    refine ⟨?_, by rw [hj, joinGo, if_pos hs]⟩
                    rcases hs with hs | hs
                    · omega
                    · have := at_le h hs.1
                      omega
                  have next : (y.i ≤ l.i ∨ ((atF l y.i).2 = true ∧ (atF l y.i).1 = y.t)) → ∀ e' : Env, e' 68 = .sl .no 3 (encL more) → e' 69 = .int .i64 more.length → e' 70 = .int .i64 ((k + 1 : Nat) : Int) → e' 4 = .ip [.int .i64 l.i, .int .i64 l.t, .sl .no 3 (encL l.rows)] 0 → e' 8 = .fresh 3 → e' 3 = .sl .no 3 (encL more) → loopK J M (more.length - iv (e 70)) Q' .normal e' S' := by
                    intro hs e' g68 g69 g70 g4 g8 g3
                    obtain ⟨s1, s2⟩ := skip hs
                    refine vnext hJ hM S' (fun _ _ h => h) ⟨rfl, k + 1, hlt, s1, g68, g69, g70, g4, g8, g3, s2⟩ ?_
                    rw [g70, h70]
                    simp only [iv_int, Int.toNat_natCast]
                    omega
                  rw [h70] at next
                  by_cases b1 : y.i ≤ l.i
                  · simp -implicitDefEqProofs only [go_sem, ↓reduceIte, Nat.reduceEqDiff, Nat.reduceLT, Nat.reduceLeDiff, Nat.reduceAdd, Nat.reduceMul, Nat.reduceSub, reduceCtorEq, Nat.reduceMod, Nat.reduceBEq, Int.reduceBEq, Int.reduceBNe, Int.reduceToNat, b1, h70, hk1]
                    refine next (.inl b1) _ ?_ ?_ ?_ ?_ ?_ ?_ <;> simp -implicitDefEqProofs only [go_sem, ↓reduceIte, Nat.reduceEqDiff, Nat.reduceLT, Nat.reduceLeDiff, Nat.reduceAdd, Nat.reduceMul, Nat.reduceSub, reduceCtorEq, Nat.reduceMod, Nat.reduceBEq, Int.reduceBEq, Int.reduceBNe, Int.reduceToNat, h68, h69, h4, h8, h3]
                  · simp -implicitDefEqProofs only [go_sem, ↓reduceIte, Nat.reduceEqDiff, Nat.reduceLT, Nat.reduceLeDiff, Nat.reduceAdd, Nat.reduceMul, Nat.reduceSub, reduceCtorEq, Nat.reduceMod, Nat.reduceBEq, Int.reduceBEq, Int.reduceBNe, Int.reduceToNat, b1]
                    rcases (Bool.eq_false_or_eq_true (atF l y.i).2).symm with b2 | b2
                    · have hs : ¬ (y.i ≤ l.i ∨ ((atF l y.i).2 = true ∧ (atF l y.i).1 = y.t)) := by
                        rw [b2]; simp; omega
                      simp -implicitDefEqProofs only [go_sem, ↓reduceIte, Nat.reduceEqDiff, Nat.reduceLT, Nat.reduceLeDiff, Nat.reduceAdd, Nat.reduceMul, Nat.reduceSub, reduceCtorEq, Nat.reduceMod, Nat.reduceBEq, Int.reduceBEq, Int.reduceBNe, Int.reduceToNat, b2]
                      have hb1 : IntKind.i64.wrap (y.i - 1) = y.i - 1 := wrap64 (by omega) (by omega)
                      simp -implicitDefEqProofs only [go_sem, ↓reduceIte, Nat.reduceEqDiff, Nat.reduceLT, Nat.reduceLeDiff, Nat.reduceAdd, Nat.reduceMul, Nat.reduceSub, reduceCtorEq, Nat.reduceMod, Nat.reduceBEq, Int.reduceBEq, Int.reduceBNe, Int.reduceToNat, h4, hb1]
                      refine refAt_spec l (y.i - 1) h hl _ _ ?_
                      simp -implicitDefEqProofs only [go_sem, ↓reduceIte, Nat.reduceEqDiff, Nat.reduceLT, Nat.reduceLeDiff, Nat.reduceAdd, Nat.reduceMul, Nat.reduceSub, reduceCtorEq, Nat.reduceMod, Nat.reduceBEq, Int.reduceBEq, Int.reduceBNe, Int.reduceToNat]
                      by_cases b4 : y.t < (atF l (y.i - 1)).1
                      · simp -implicitDefEqProofs only [go_sem, ↓reduceIte, Nat.reduceEqDiff, Nat.reduceLT, Nat.reduceLeDiff, Nat.reduceAdd, Nat.reduceMul, Nat.reduceSub, reduceCtorEq, Nat.reduceMod, Nat.reduceBEq, Int.reduceBEq, Int.reduceBNe, Int.reduceToNat, b4, h4, h8]
                        refine hQ _ _ _ ?_
                        simp -implicitDefEqProofs only [go_sem, ↓reduceIte, Nat.reduceEqDiff, Nat.reduceLT, Nat.reduceLeDiff, Nat.reduceAdd, Nat.reduceMul, Nat.reduceSub, reduceCtorEq, Nat.reduceMod, Nat.reduceBEq, Int.reduceBEq, Int.reduceBNe, Int.reduceToNat]
                        have hjf : joinF l x t more = ⟨l, 0, [], false⟩ := by
                          unfold joinF; rw [h, hmt]; simp only [if_true]; rw [hj, joinGo, if_neg hs, if_pos b4]
                        rw [hjf] at hK
                        exact ⟨S', fun _ _ h => h, hK⟩
                      · simp -implicitDefEqProofs only [go_sem, ↓reduceIte, Nat.reduceEqDiff, Nat.reduceLT, Nat.reduceLeDiff, Nat.reduceAdd, Nat.reduceMul, Nat.reduceSub, reduceCtorEq, Nat.reduceMod, Nat.reduceBEq, Int.reduceBEq, Int.reduceBNe, Int.reduceToNat, b4, h4]
                        intro id hid
                        have hjf : joinF l x t more = ⟨⟨l.i, l.t, l.rows.take (y.i - l.i - 1).toNat ++ more.drop k⟩, if (atF l y.i).2 then y.i else 0, more.drop k, true⟩ := by
                          unfold joinF; rw [h, hmt]; simp only [if_true]; rw [hj, joinGo, if_neg hs, if_neg b4, ← hdy]
                        have hsm := filter_take h (x := y.i) (by omega)
                        refine vloop (fun e S2 => ∃ k2 : Nat, S2 = S'.set id (some [.int .i64 l.i, .int .i64 l.t, .sl .tail 3 (encL ((l.rows.take k2).filter fun z => decide (z.i < y.i)))]) ∧ k2 ≤ l.rows.length ∧ e 3 = .sl .no 3 (encL more) ∧ e 8 = .fresh 3 ∧ e 16 = .int .i64 k ∧ e 17 = .ip [.int .i64 y.i, .int .i64 y.t, .sl .no 1 (encD y.d)] 0 ∧ e 19 = .bool (atF l y.i).2 ∧ e 22 = .ref id 0 ∧ e 115 = .sl .no 3 (encL l.rows) ∧ e 116 = .int .i64 l.rows.length ∧ e 117 = .int .i64 k2) (fun e _ => l.rows.length - iv (e 117)) ?_ ?_
                        · refine ⟨0, rfl, Nat.zero_le _, ?_, ?_, ?_, ?_, ?_, ?_, ?_, ?_, rfl⟩ <;> simp -implicitDefEqProofs only [go_sem, ↓reduceIte, Nat.reduceEqDiff, Nat.reduceLT, Nat.reduceLeDiff, Nat.reduceAdd, Nat.reduceMul, Nat.reduceSub, reduceCtorEq, Nat.reduceMod, Nat.reduceBEq, Int.reduceBEq, Int.reduceBNe, Int.reduceToNat, h3, h8, h4, b2]
                        · rintro J2 M2 Q2 hJ2 hM2 hQ2 e' S2 ⟨k2, rfl, hk2, f3, f8, f16, f17, f19, f22, f115, f116, f117⟩
                          simp -implicitDefEqProofs only [go_sem, ↓reduceIte, Nat.reduceEqDiff, Nat.reduceLT, Nat.reduceLeDiff, Nat.reduceAdd, Nat.reduceMul, Nat.reduceSub, reduceCtorEq, Nat.reduceMod, Nat.reduceBEq, Int.reduceBEq, Int.reduceBNe, Int.reduceToNat, f116, f117]
                          by_cases hlt2 : k2 < l.rows.length
                          · obtain ⟨z, hz⟩ : ∃ z, l.rows[k2]? = some z := ⟨_, List.getElem?_eq_getElem hlt2⟩
                            have hin2 : (0 : Int) ≤ k2 ∧ (k2 : Int) < l.rows.length := by omega
                            have hk21 : IntKind.i64.wrap ((k2 : Int) + 1) = ((k2 + 1 : Nat) : Int) := wrap64 (by omega) (by omega)
                            have hst : (l.rows.take (k2 + 1)).filter (fun z => decide (z.i < y.i)) = (l.rows.take k2).filter (fun z => decide (z.i < y.i)) ++ (if decide (z.i < y.i) = true then [z] else []) := by
                              rw [List.take_add_one, hz, List.filter_append]
                              simp only [Option.toList_some, List.filter_cons, List.filter_nil]
                            have hfl : ((l.rows.take k2).filter fun z => decide (z.i < y.i)).length ≤ k2 := Nat.le_trans (List.length_filter_le _ _) (by rw [List.length_take]; omega)
                            generalize hF : (l.rows.take k2).filter (fun z => decide (z.i < y.i)) = F at hst hfl ⊢
                            simp -implicitDefEqProofs only [go_sem, ↓reduceIte, Nat.reduceEqDiff, Nat.reduceLT, Nat.reduceLeDiff, Nat.reduceAdd, Nat.reduceMul, Nat.reduceSub, reduceCtorEq, Nat.reduceMod, Nat.reduceBEq, Int.reduceBEq, Int.reduceBNe, Int.reduceToNat, hin2, f17, f115, f116, f117, getD_encL hz, encE]
                            by_cases c1' : z.i < y.i
                            · rw [decide_eq_true c1', if_pos rfl] at hst
                              have hap : (F.length + 1) * 40 ≤ 140737488355328 ∧ F.length + 1 ≤ 140737488355328 := by omega
                              simp -implicitDefEqProofs only [go_sem, ↓reduceIte, Nat.reduceEqDiff, Nat.reduceLT, Nat.reduceLeDiff, Nat.reduceAdd, Nat.reduceMul, Nat.reduceSub, reduceCtorEq, Nat.reduceMod, Nat.reduceBEq, Int.reduceBEq, Int.reduceBNe, Int.reduceToNat, c1', f22, f117, hap, hk21]
                              refine vnext hJ2 hM2 (S'.set id (some [.int .i64 l.i, .int .i64 l.t, .sl .tail 3 (encL (F ++ [z]))])) ?_ ⟨k2 + 1, by rw [hst], hlt2, ?_, ?_, ?_, ?_, ?_, ?_, ?_, ?_, ?_⟩ ?_
                              · intro i c hi
                                rw [encL_app] at hi
                                exact hi
                              · simp -implicitDefEqProofs only [go_sem, ↓reduceIte, Nat.reduceEqDiff, Nat.reduceLT, Nat.reduceLeDiff, Nat.reduceAdd, Nat.reduceMul, Nat.reduceSub, reduceCtorEq, Nat.reduceMod, Nat.reduceBEq, Int.reduceBEq, Int.reduceBNe, Int.reduceToNat, f3]
                              · simp -implicitDefEqProofs only [go_sem, ↓reduceIte, Nat.reduceEqDiff, Nat.reduceLT, Nat.reduceLeDiff, Nat.reduceAdd, Nat.reduceMul, Nat.reduceSub, reduceCtorEq, Nat.reduceMod, Nat.reduceBEq, Int.reduceBEq, Int.reduceBNe, Int.reduceToNat, f8]
                              · simp -implicitDefEqProofs only [go_sem, ↓reduceIte, Nat.reduceEqDiff, Nat.reduceLT, Nat.reduceLeDiff, Nat.reduceAdd, Nat.reduceMul, Nat.reduceSub, reduceCtorEq, Nat.reduceMod, Nat.reduceBEq, Int.reduceBEq, Int.reduceBNe, Int.reduceToNat, f16]
                              · simp -implicitDefEqProofs only [go_sem, ↓reduceIte, Nat.reduceEqDiff, Nat.reduceLT, Nat.reduceLeDiff, Nat.reduceAdd, Nat.reduceMul, Nat.reduceSub, reduceCtorEq, Nat.reduceMod, Nat.reduceBEq, Int.reduceBEq, Int.reduceBNe, Int.reduceToNat, f17]
                              · simp -implicitDefEqProofs only [go_sem, ↓reduceIte, Nat.reduceEqDiff, Nat.reduceLT, Nat.reduceLeDiff, Nat.reduceAdd, Nat.reduceMul, Nat.reduceSub, reduceCtorEq, Nat.reduceMod, Nat.reduceBEq, Int.reduceBEq, Int.reduceBNe, Int.reduceToNat, f19]
                              · simp -implicitDefEqProofs only [go_sem, ↓reduceIte, Nat.reduceEqDiff, Nat.reduceLT, Nat.reduceLeDiff, Nat.reduceAdd, Nat.reduceMul, Nat.reduceSub, reduceCtorEq, Nat.reduceMod, Nat.reduceBEq, Int.reduceBEq, Int.reduceBNe, Int.reduceToNat, f22]
                              · simp -implicitDefEqProofs only [go_sem, ↓reduceIte, Nat.reduceEqDiff, Nat.reduceLT, Nat.reduceLeDiff, Nat.reduceAdd, Nat.reduceMul, Nat.reduceSub, reduceCtorEq, Nat.reduceMod, Nat.reduceBEq, Int.reduceBEq, Int.reduceBNe, Int.reduceToNat, f115]
                              · simp -implicitDefEqProofs only [go_sem, ↓reduceIte, Nat.reduceEqDiff, Nat.reduceLT, Nat.reduceLeDiff, Nat.reduceAdd, Nat.reduceMul, Nat.reduceSub, reduceCtorEq, Nat.reduceMod, Nat.reduceBEq, Int.reduceBEq, Int.reduceBNe, Int.reduceToNat, f116]
                              · simp -implicitDefEqProofs only [go_sem, ↓reduceIte, Nat.reduceEqDiff, Nat.reduceLT, Nat.reduceLeDiff, Nat.reduceAdd, Nat.reduceMul, Nat.reduceSub, reduceCtorEq, Nat.reduceMod, Nat.reduceBEq, Int.reduceBEq, Int.reduceBNe, Int.reduceToNat]
                              · simp -implicitDefEqProofs only [go_sem, ↓reduceIte, Nat.reduceEqDiff, Nat.reduceLT, Nat.reduceLeDiff, Nat.reduceAdd, Nat.reduceMul, Nat.reduceSub, reduceCtorEq, Nat.reduceMod, Nat.reduceBEq, Int.reduceBEq, Int.reduceBNe, Int.reduceToNat]
                                omega
                            · rw [decide_eq_false c1', if_neg (by simp), List.append_nil] at hst
                              simp -implicitDefEqProofs only [go_sem, ↓reduceIte, Nat.reduceEqDiff, Nat.reduceLT, Nat.reduceLeDiff, Nat.reduceAdd, Nat.reduceMul, Nat.reduceSub, reduceCtorEq, Nat.reduceMod, Nat.reduceBEq, Int.reduceBEq, Int.reduceBNe, Int.reduceToNat, c1', f117, hk21]
                              refine vnext hJ2 hM2 (S'.set id (some [.int .i64 l.i, .int .i64 l.t, .sl .tail 3 (encL F)])) (fun _ _ h => h) ⟨k2 + 1, by rw [hst], hlt2, ?_, ?_, ?_, ?_, ?_, ?_, ?_, ?_, ?_⟩ ?_
                              · simp -implicitDefEqProofs only [go_sem, ↓reduceIte, Nat.reduceEqDiff, Nat.reduceLT, Nat.reduceLeDiff, Nat.reduceAdd, Nat.reduceMul, Nat.reduceSub, reduceCtorEq, Nat.reduceMod, Nat.reduceBEq, Int.reduceBEq, Int.reduceBNe, Int.reduceToNat, f3]
                              · simp -implicitDefEqProofs only [go_sem, ↓reduceIte, Nat.reduceEqDiff, Nat.reduceLT, Nat.reduceLeDiff, Nat.reduceAdd, Nat.reduceMul, Nat.reduceSub, reduceCtorEq, Nat.reduceMod, Nat.reduceBEq, Int.reduceBEq, Int.reduceBNe, Int.reduceToNat, f8]
                              · simp -implicitDefEqProofs only [go_sem, ↓reduceIte, Nat.reduceEqDiff, Nat.reduceLT, Nat.reduceLeDiff, Nat.reduceAdd, Nat.reduceMul, Nat.reduceSub, reduceCtorEq, Nat.reduceMod, Nat.reduceBEq, Int.reduceBEq, Int.reduceBNe, Int.reduceToNat, f16]
                              · simp -implicitDefEqProofs only [go_sem, ↓reduceIte, Nat.reduceEqDiff, Nat.reduceLT, Nat.reduceLeDiff, Nat.reduceAdd, Nat.reduceMul, Nat.reduceSub, reduceCtorEq, Nat.reduceMod, Nat.reduceBEq, Int.reduceBEq, Int.reduceBNe, Int.reduceToNat, f17]
                              · simp -implicitDefEqProofs only [go_sem, ↓reduceIte, Nat.reduceEqDiff, Nat.reduceLT, Nat.reduceLeDiff, Nat.reduceAdd, Nat.reduceMul, Nat.reduceSub, reduceCtorEq, Nat.reduceMod, Nat.reduceBEq, Int.reduceBEq, Int.reduceBNe, Int.reduceToNat, f19]
                              · simp -implicitDefEqProofs only [go_sem, ↓reduceIte, Nat.reduceEqDiff, Nat.reduceLT, Nat.reduceLeDiff, Nat.reduceAdd, Nat.reduceMul, Nat.reduceSub, reduceCtorEq, Nat.reduceMod, Nat.reduceBEq, Int.reduceBEq, Int.reduceBNe, Int.reduceToNat, f22]
                              · simp -implicitDefEqProofs only [go_sem, ↓reduceIte, Nat.reduceEqDiff, Nat.reduceLT, Nat.reduceLeDiff, Nat.reduceAdd, Nat.reduceMul, Nat.reduceSub, reduceCtorEq, Nat.reduceMod, Nat.reduceBEq, Int.reduceBEq, Int.reduceBNe, Int.reduceToNat, f115]
                              · simp -implicitDefEqProofs only [go_sem, ↓reduceIte, Nat.reduceEqDiff, Nat.reduceLT, Nat.reduceLeDiff, Nat.reduceAdd, Nat.reduceMul, Nat.reduceSub, reduceCtorEq, Nat.reduceMod, Nat.reduceBEq, Int.reduceBEq, Int.reduceBNe, Int.reduceToNat, f116]
                              · simp -implicitDefEqProofs only [go_sem, ↓reduceIte, Nat.reduceEqDiff, Nat.reduceLT, Nat.reduceLeDiff, Nat.reduceAdd, Nat.reduceMul, Nat.reduceSub, reduceCtorEq, Nat.reduceMod, Nat.reduceBEq, Int.reduceBEq, Int.reduceBNe, Int.reduceToNat]
                              · simp -implicitDefEqProofs only [go_sem, ↓reduceIte, Nat.reduceEqDiff, Nat.reduceLT, Nat.reduceLeDiff, Nat.reduceAdd, Nat.reduceMul, Nat.reduceSub, reduceCtorEq, Nat.reduceMod, Nat.reduceBEq, Int.reduceBEq, Int.reduceBNe, Int.reduceToNat]
                                omega
                          · have hcc : ¬ (k2 : Int) < l.rows.length := by omega
                            simp -implicitDefEqProofs only [go_sem, ↓reduceIte, Nat.reduceEqDiff, Nat.reduceLT, Nat.reduceLeDiff, Nat.reduceAdd, Nat.reduceMul, Nat.reduceSub, reduceCtorEq, Nat.reduceMod, Nat.reduceBEq, Int.reduceBEq, Int.reduceBNe, Int.reduceToNat, hcc]
                            refine hQ2 _ _ _ ?_
                            rw [show l.rows.take k2 = l.rows from List.take_of_length_le (by omega), hsm]
                            have hpl : (l.rows.take (y.i - l.i - 1).toNat).length ≤ 100000 := by rw [List.length_take]; omega
                            generalize hP : l.rows.take (y.i - l.i - 1).toNat = P at hjf hpl ⊢
                            have htk : List.take (more.length - k) (List.drop k more) = more.drop k := List.take_of_length_le (by simp)
                            have hcut : 0 ≤ (k : Int) ∧ (k : Int) ≤ more.length ∧ (more.length : Int) ≤ more.length := by omega
                            have hap : (P.length + (more.length - k)) * 40 ≤ 140737488355328 ∧ P.length + (more.length - k) ≤ 140737488355328 := by omega
                            simp -implicitDefEqProofs only [go_sem, ↓reduceIte, Nat.reduceEqDiff, Nat.reduceLT, Nat.reduceLeDiff, Nat.reduceAdd, Nat.reduceMul, Nat.reduceSub, reduceCtorEq, Nat.reduceMod, Nat.reduceBEq, Int.reduceBEq, Int.reduceBNe, Int.reduceToNat]
                            refine mid_wp (fun e2 S3 => S3 = S'.set id (some [.int .i64 l.i, .int .i64 l.t, .sl .tail 3 (encL (P ++ more.drop k))]) ∧ e2 3 = .sl .no 3 (encL more) ∧ e2 8 = .fresh 3 ∧ e2 16 = .int .i64 k ∧ e2 17 = .ip [.int .i64 y.i, .int .i64 y.t, .sl .no 1 (encD y.d)] 0 ∧ e2 19 = .bool (atF l y.i).2 ∧ e2 22 = .ref id 0) ?_ ?_
                            · rintro e2 S3 ⟨rfl, g3, g8, g16, g17, g19, g22⟩
                              rw [b2] at g19
                              simp -implicitDefEqProofs only [go_sem, ↓reduceIte, Nat.reduceEqDiff, Nat.reduceLT, Nat.reduceLeDiff, Nat.reduceAdd, Nat.reduceMul, Nat.reduceSub, reduceCtorEq, Nat.reduceMod, Nat.reduceBEq, Int.reduceBEq, Int.reduceBNe, Int.reduceToNat, g19, g17]
                              refine vwp_draw (by decide +kernel) ?_
                              simp -implicitDefEqProofs only [go_sem, ↓reduceIte, Nat.reduceEqDiff, Nat.reduceLT, Nat.reduceLeDiff, Nat.reduceAdd, Nat.reduceMul, Nat.reduceSub, reduceCtorEq, Nat.reduceMod, Nat.reduceBEq, Int.reduceBEq, Int.reduceBNe, Int.reduceToNat, g3, g8, g16, g22, hcut, htk]
                              refine hQ _ _ _ ?_
                              simp -implicitDefEqProofs only [go_sem, ↓reduceIte, Nat.reduceEqDiff, Nat.reduceLT, Nat.reduceLeDiff, Nat.reduceAdd, Nat.reduceMul, Nat.reduceSub, reduceCtorEq, Nat.reduceMod, Nat.reduceBEq, Int.reduceBEq, Int.reduceBNe, Int.reduceToNat]
                              rw [hjf, b2] at hK
                              exact ⟨S', set_drop hid (fun _ _ h => h), hK⟩
                            · intro W' hW
                              refine vwp_tree (t := (.alt (.one 0 (.alt (.one 1 (.alt (.one 2 (.one 3 (.one 4 (.one 5 (.one 6 (.one 7 .done)))))) (.one 3 (.one 2 (.one 4 (.one 5 (.one 6 (.one 7 .done)))))))) (.alt (.one 2 (.alt (.one 1 (.one 3 (.one 4 (.one 5 (.one 6 (.one 7 .done)))))) (.one 3 (.alt (.one 1 (.one 4 (.one 5 (.one 6 (.one 7 .done))))) (.one 4 (.one 1 (.one 5 (.one 6 (.one 7 .done))))))))) (.one 3 (.alt (.one 1 (.one 2 (.one 4 (.one 5 (.one 6 (.one 7 .done)))))) (.one 2 (.alt (.one 1 (.one 4 (.one 5 (.one 6 (.one 7 .done))))) (.one 4 (.one 1 (.one 5 (.one 6 (.one 7 .done)))))))))))) (.alt (.one 2 (.alt (.one 0 (.alt (.one 1 (.one 3 (.one 4 (.one 5 (.one 6 (.one 7 .done)))))) (.one 3 (.alt (.one 1 (.one 4 (.one 5 (.one 6 (.one 7 .done))))) (.one 4 (.one 1 (.one 5 (.one 6 (.one 7 .done))))))))) (.one 3 (.alt (.one 0 (.alt (.one 1 (.one 4 (.one 5 (.one 6 (.one 7 .done))))) (.one 4 (.one 1 (.one 5 (.one 6 (.one 7 .done))))))) (.one 4 (.one 0 (.one 1 (.one 5 (.one 6 (.one 7 .done)))))))))) (.one 3 (.alt (.one 0 (.alt (.one 1 (.one 2 (.one 4 (.one 5 (.one 6 (.one 7 .done)))))) (.one 2 (.alt (.one 1 (.one 4 (.one 5 (.one 6 (.one 7 .done))))) (.one 4 (.one 1 (.one 5 (.one 6 (.one 7 .done))))))))) (.one 2 (.alt (.one 0 (.alt (.one 1 (.one 4 (.one 5 (.one 6 (.one 7 .done))))) (.one 4 (.one 1 (.one 5 (.one 6 (.one 7 .done))))))) (.one 4 (.one 0 (.one 1 (.one 5 (.one 6 (.one 7 .done))))))))))))) (by decide +kernel) ?_
                              simp -implicitDefEqProofs only [go_sem, ↓reduceIte, Nat.reduceEqDiff, Nat.reduceLT, Nat.reduceLeDiff, Nat.reduceAdd, Nat.reduceMul, Nat.reduceSub, reduceCtorEq, Nat.reduceMod, Nat.reduceBEq, Int.reduceBEq, Int.reduceBNe, Int.reduceToNat, f3, f16, f22, hcut, htk, hap, List.length_drop]
                              have go : ∀ e2 : Env, e2 3 = .sl .no 3 (encL more) → e2 8 = .fresh 3 → e2 16 = .int .i64 k → e2 17 = .ip [.int .i64 y.i, .int .i64 y.t, .sl .no 1 (encD y.d)] 0 → e2 19 = .bool (atF l y.i).2 → e2 22 = .ref id 0 → W' e2 (S'.set id (some [.int .i64 l.i, .int .i64 l.t, .sl .tail 3 (encL P ++ encL (more.drop k))])) := by
                                intro e2 g3 g8 g16 g17 g19 g22
                                rw [← encL_app]
                                exact hW _ _ ⟨rfl, g3, g8, g16, g17, g19, g22⟩
                              repeat' (first | (refine go _ ?_ ?_ ?_ ?_ ?_ ?_ <;> simp -implicitDefEqProofs only [go_sem, ↓reduceIte, Nat.reduceEqDiff, Nat.reduceLT, Nat.reduceLeDiff, Nat.reduceAdd, Nat.reduceMul, Nat.reduceSub, reduceCtorEq, Nat.reduceMod, Nat.reduceBEq, Int.reduceBEq, Int.reduceBNe, Int.reduceToNat, f3, f8, f16, f17, f19, f22]) | refine And.intro ?_ ?_)
                    · rcases (Bool.eq_false_or_eq_true ((atF l y.i).1 == y.t)).symm with b3 | b3
                      · have hs : ¬ (y.i ≤ l.i ∨ ((atF l y.i).2 = true ∧ (atF l y.i).1 = y.t)) := by
                          simp only [beq_eq_false_iff_ne, ne_eq] at b3
                          rw [b2]; simp [b3]; omega
                        simp -implicitDefEqProofs only [go_sem, ↓reduceIte, Nat.reduceEqDiff, Nat.reduceLT, Nat.reduceLeDiff, Nat.reduceAdd, Nat.reduceMul, Nat.reduceSub, reduceCtorEq, Nat.reduceMod, Nat.reduceBEq, Int.reduceBEq, Int.reduceBNe, Int.reduceToNat, b2, b3]
                        have hb1 : IntKind.i64.wrap (y.i - 1) = y.i - 1 := wrap64 (by omega) (by omega)
                        simp -implicitDefEqProofs only [go_sem, ↓reduceIte, Nat.reduceEqDiff, Nat.reduceLT, Nat.reduceLeDiff, Nat.reduceAdd, Nat.reduceMul, Nat.reduceSub, reduceCtorEq, Nat.reduceMod, Nat.reduceBEq, Int.reduceBEq, Int.reduceBNe, Int.reduceToNat, h4, hb1]
                        refine refAt_spec l (y.i - 1) h hl _ _ ?_
                        simp -implicitDefEqProofs only [go_sem, ↓reduceIte, Nat.reduceEqDiff, Nat.reduceLT, Nat.reduceLeDiff, Nat.reduceAdd, Nat.reduceMul, Nat.reduceSub, reduceCtorEq, Nat.reduceMod, Nat.reduceBEq, Int.reduceBEq, Int.reduceBNe, Int.reduceToNat]
                        by_cases b4 : y.t < (atF l (y.i - 1)).1
                        · simp -implicitDefEqProofs only [go_sem, ↓reduceIte, Nat.reduceEqDiff, Nat.reduceLT, Nat.reduceLeDiff, Nat.reduceAdd, Nat.reduceMul, Nat.reduceSub, reduceCtorEq, Nat.reduceMod, Nat.reduceBEq, Int.reduceBEq, Int.reduceBNe, Int.reduceToNat, b4, h4, h8]
                          refine hQ _ _ _ ?_
                          simp -implicitDefEqProofs only [go_sem, ↓reduceIte, Nat.reduceEqDiff, Nat.reduceLT, Nat.reduceLeDiff, Nat.reduceAdd, Nat.reduceMul, Nat.reduceSub, reduceCtorEq, Nat.reduceMod, Nat.reduceBEq, Int.reduceBEq, Int.reduceBNe, Int.reduceToNat]
                          have hjf : joinF l x t more = ⟨l, 0, [], false⟩ := by
                            unfold joinF; rw [h, hmt]; simp only [if_true]; rw [hj, joinGo, if_neg hs, if_pos b4]
                          rw [hjf] at hK
                          exact ⟨S', fun _ _ h => h, hK⟩
                        · simp -implicitDefEqProofs only [go_sem, ↓reduceIte, Nat.reduceEqDiff, Nat.reduceLT, Nat.reduceLeDiff, Nat.reduceAdd, Nat.reduceMul, Nat.reduceSub, reduceCtorEq, Nat.reduceMod, Nat.reduceBEq, Int.reduceBEq, Int.reduceBNe, Int.reduceToNat, b4, h4]
                          intro id hid
                          have hjf : joinF l x t more = ⟨⟨l.i, l.t, l.rows.take (y.i - l.i - 1).toNat ++ more.drop k⟩, if (atF l y.i).2 then y.i else 0, more.drop k, true⟩ := by
                            unfold joinF; rw [h, hmt]; simp only [if_true]; rw [hj, joinGo, if_neg hs, if_neg b4, ← hdy]
                          have hsm := filter_take h (x := y.i) (by omega)
                          refine vloop (fun e S2 => ∃ k2 : Nat, S2 = S'.set id (some [.int .i64 l.i, .int .i64 l.t, .sl .tail 3 (encL ((l.rows.take k2).filter fun z => decide (z.i < y.i)))]) ∧ k2 ≤ l.rows.length ∧ e 3 = .sl .no 3 (encL more) ∧ e 8 = .fresh 3 ∧ e 16 = .int .i64 k ∧ e 17 = .ip [.int .i64 y.i, .int .i64 y.t, .sl .no 1 (encD y.d)] 0 ∧ e 19 = .bool (atF l y.i).2 ∧ e 22 = .ref id 0 ∧ e 115 = .sl .no 3 (encL l.rows) ∧ e 116 = .int .i64 l.rows.length ∧ e 117 = .int .i64 k2) (fun e _ => l.rows.length - iv (e 117)) ?_ ?_
                          · refine ⟨0, rfl, Nat.zero_le _, ?_, ?_, ?_, ?_, ?_, ?_, ?_, ?_, rfl⟩ <;> simp -implicitDefEqProofs only [go_sem, ↓reduceIte, Nat.reduceEqDiff, Nat.reduceLT, Nat.reduceLeDiff, Nat.reduceAdd, Nat.reduceMul, Nat.reduceSub, reduceCtorEq, Nat.reduceMod, Nat.reduceBEq, Int.reduceBEq, Int.reduceBNe, Int.reduceToNat, h3, h8, h4, b2]
                          · rintro J2 M2 Q2 hJ2 hM2 hQ2 e' S2 ⟨k2, rfl, hk2, f3, f8, f16, f17, f19, f22, f115, f116, f117⟩
                            simp -implicitDefEqProofs only [go_sem, ↓reduceIte, Nat.reduceEqDiff, Nat.reduceLT, Nat.reduceLeDiff, Nat.reduceAdd, Nat.reduceMul, Nat.reduceSub, reduceCtorEq, Nat.reduceMod, Nat.reduceBEq, Int.reduceBEq, Int.reduceBNe, Int.reduceToNat, f116, f117]
                            by_cases hlt2 : k2 < l.rows.length
                            · obtain ⟨z, hz⟩ : ∃ z, l.rows[k2]? = some z := ⟨_, List.getElem?_eq_getElem hlt2⟩
                              have hin2 : (0 : Int) ≤ k2 ∧ (k2 : Int) < l.rows.length := by omega
                              have hk21 : IntKind.i64.wrap ((k2 : Int) + 1) = ((k2 + 1 : Nat) : Int) := wrap64 (by omega) (by omega)
                              have hst : (l.rows.take (k2 + 1)).filter (fun z => decide (z.i < y.i)) = (l.rows.take k2).filter (fun z => decide (z.i < y.i)) ++ (if decide (z.i < y.i) = true then [z] else []) := by
                                rw [List.take_add_one, hz, List.filter_append]
                                simp only [Option.toList_some, List.filter_cons, List.filter_nil]
                              have hfl : ((l.rows.take k2).filter fun z => decide (z.i < y.i)).length ≤ k2 := Nat.le_trans (List.length_filter_le _ _) (by rw [List.length_take]; omega)
                              generalize hF : (l.rows.take k2).filter (fun z => decide (z.i < y.i)) = F at hst hfl ⊢
                              simp -implicitDefEqProofs only [go_sem, ↓reduceIte, Nat.reduceEqDiff, Nat.reduceLT, Nat.reduceLeDiff, Nat.reduceAdd, Nat.reduceMul, Nat.reduceSub, reduceCtorEq, Nat.reduceMod, Nat.reduceBEq, Int.reduceBEq, Int.reduceBNe, Int.reduceToNat, hin2, f17, f115, f116, f117, getD_encL hz, encE]
                              by_cases c1' : z.i < y.i
                              · rw [decide_eq_true c1', if_pos rfl] at hst
                                have hap : (F.length + 1) * 40 ≤ 140737488355328 ∧ F.length + 1 ≤ 140737488355328 := by omega
                                simp -implicitDefEqProofs only [go_sem, ↓reduceIte, Nat.reduceEqDiff, Nat.reduceLT, Nat.reduceLeDiff, Nat.reduceAdd, Nat.reduceMul, Nat.reduceSub, reduceCtorEq, Nat.reduceMod, Nat.reduceBEq, Int.reduceBEq, Int.reduceBNe, Int.reduceToNat, c1', f22, f117, hap, hk21]
                                refine vnext hJ2 hM2 (S'.set id (some [.int .i64 l.i, .int .i64 l.t, .sl .tail 3 (encL (F ++ [z]))])) ?_ ⟨k2 + 1, by rw [hst], hlt2, ?_, ?_, ?_, ?_, ?_, ?_, ?_, ?_, ?_⟩ ?_
                                · intro i c hi
                                  rw [encL_app] at hi
                                  exact hi
                                · simp -implicitDefEqProofs only [go_sem, ↓reduceIte, Nat.reduceEqDiff, Nat.reduceLT, Nat.reduceLeDiff, Nat.reduceAdd, Nat.reduceMul, Nat.reduceSub, reduceCtorEq, Nat.reduceMod, Nat.reduceBEq, Int.reduceBEq, Int.reduceBNe, Int.reduceToNat, f3]
                                · simp -implicitDefEqProofs only [go_sem, ↓reduceIte, Nat.reduceEqDiff, Nat.reduceLT, Nat.reduceLeDiff, Nat.reduceAdd, Nat.reduceMul, Nat.reduceSub, reduceCtorEq, Nat.reduceMod, Nat.reduceBEq, Int.reduceBEq, Int.reduceBNe, Int.reduceToNat, f8]
                                · simp -implicitDefEqProofs only [go_sem, ↓reduceIte, Nat.reduceEqDiff, Nat.reduceLT, Nat.reduceLeDiff, Nat.reduceAdd, Nat.reduceMul, Nat.reduceSub, reduceCtorEq, Nat.reduceMod, Nat.reduceBEq, Int.reduceBEq, Int.reduceBNe, Int.reduceToNat, f16]
                                · simp -implicitDefEqProofs only [go_sem, ↓reduceIte, Nat.reduceEqDiff, Nat.reduceLT, Nat.reduceLeDiff, Nat.reduceAdd, Nat.reduceMul, Nat.reduceSub, reduceCtorEq, Nat.reduceMod, Nat.reduceBEq, Int.reduceBEq, Int.reduceBNe, Int.reduceToNat, f17]
                                · simp -implicitDefEqProofs only [go_sem, ↓reduceIte, Nat.reduceEqDiff, Nat.reduceLT, Nat.reduceLeDiff, Nat.reduceAdd, Nat.reduceMul, Nat.reduceSub, reduceCtorEq, Nat.reduceMod, Nat.reduceBEq, Int.reduceBEq, Int.reduceBNe, Int.reduceToNat, f19]
                                · simp -implicitDefEqProofs only [go_sem, ↓reduceIte, Nat.reduceEqDiff, Nat.reduceLT, Nat.reduceLeDiff, Nat.reduceAdd, Nat.reduceMul, Nat.reduceSub, reduceCtorEq, Nat.reduceMod, Nat.reduceBEq, Int.reduceBEq, Int.reduceBNe, Int.reduceToNat, f22]
                                · simp -implicitDefEqProofs only [go_sem, ↓reduceIte, Nat.reduceEqDiff, Nat.reduceLT, Nat.reduceLeDiff, Nat.reduceAdd, Nat.reduceMul, Nat.reduceSub, reduceCtorEq, Nat.reduceMod, Nat.reduceBEq, Int.reduceBEq, Int.reduceBNe, Int.reduceToNat, f115]
                                · simp -implicitDefEqProofs only [go_sem, ↓reduceIte, Nat.reduceEqDiff, Nat.reduceLT, Nat.reduceLeDiff, Nat.reduceAdd, Nat.reduceMul, Nat.reduceSub, reduceCtorEq, Nat.reduceMod, Nat.reduceBEq, Int.reduceBEq, Int.reduceBNe, Int.reduceToNat, f116]
                                · simp -implicitDefEqProofs only [go_sem, ↓reduceIte, Nat.reduceEqDiff, Nat.reduceLT, Nat.reduceLeDiff, Nat.reduceAdd, Nat.reduceMul, Nat.reduceSub, reduceCtorEq, Nat.reduceMod, Nat.reduceBEq, Int.reduceBEq, Int.reduceBNe, Int.reduceToNat]
                                · simp -implicitDefEqProofs only [go_sem, ↓reduceIte, Nat.reduceEqDiff, Nat.reduceLT, Nat.reduceLeDiff, Nat.reduceAdd, Nat.reduceMul, Nat.reduceSub, reduceCtorEq, Nat.reduceMod, Nat.reduceBEq, Int.reduceBEq, Int.reduceBNe, Int.reduceToNat]
                                  omega
                              · rw [decide_eq_false c1', if_neg (by simp), List.append_nil] at hst
                                simp -implicitDefEqProofs only [go_sem, ↓reduceIte, Nat.reduceEqDiff, Nat.reduceLT, Nat.reduceLeDiff, Nat.reduceAdd, Nat.reduceMul, Nat.reduceSub, reduceCtorEq, Nat.reduceMod, Nat.reduceBEq, Int.reduceBEq, Int.reduceBNe, Int.reduceToNat, c1', f117, hk21]
                                refine vnext hJ2 hM2 (S'.set id (some [.int .i64 l.i, .int .i64 l.t, .sl .tail 3 (encL F)])) (fun _ _ h => h) ⟨k2 + 1, by rw [hst], hlt2, ?_, ?_, ?_, ?_, ?_, ?_, ?_, ?_, ?_⟩ ?_
                                · simp -implicitDefEqProofs only [go_sem, ↓reduceIte, Nat.reduceEqDiff, Nat.reduceLT, Nat.reduceLeDiff, Nat.reduceAdd, Nat.reduceMul, Nat.reduceSub, reduceCtorEq, Nat.reduceMod, Nat.reduceBEq, Int.reduceBEq, Int.reduceBNe, Int.reduceToNat, f3]
                                · simp -implicitDefEqProofs only [go_sem, ↓reduceIte, Nat.reduceEqDiff, Nat.reduceLT, Nat.reduceLeDiff, Nat.reduceAdd, Nat.reduceMul, Nat.reduceSub, reduceCtorEq, Nat.reduceMod, Nat.reduceBEq, Int.reduceBEq, Int.reduceBNe, Int.reduceToNat, f8]
                                · simp -implicitDefEqProofs only [go_sem, ↓reduceIte, Nat.reduceEqDiff, Nat.reduceLT, Nat.reduceLeDiff, Nat.reduceAdd, Nat.reduceMul, Nat.reduceSub, reduceCtorEq, Nat.reduceMod, Nat.reduceBEq, Int.reduceBEq, Int.reduceBNe, Int.reduceToNat, f16]
                                · simp -implicitDefEqProofs only [go_sem, ↓reduceIte, Nat.reduceEqDiff, Nat.reduceLT, Nat.reduceLeDiff, Nat.reduceAdd, Nat.reduceMul, Nat.reduceSub, reduceCtorEq, Nat.reduceMod, Nat.reduceBEq, Int.reduceBEq, Int.reduceBNe, Int.reduceToNat, f17]
                                · simp -implicitDefEqProofs only [go_sem, ↓reduceIte, Nat.reduceEqDiff, Nat.reduceLT, Nat.reduceLeDiff, Nat.reduceAdd, Nat.reduceMul, Nat.reduceSub, reduceCtorEq, Nat.reduceMod, Nat.reduceBEq, Int.reduceBEq, Int.reduceBNe, Int.reduceToNat, f19]
                                · simp -implicitDefEqProofs only [go_sem, ↓reduceIte, Nat.reduceEqDiff, Nat.reduceLT, Nat.reduceLeDiff, Nat.reduceAdd, Nat.reduceMul, Nat.reduceSub, reduceCtorEq, Nat.reduceMod, Nat.reduceBEq, Int.reduceBEq, Int.reduceBNe, Int.reduceToNat, f22]
                                · simp -implicitDefEqProofs only [go_sem, ↓reduceIte, Nat.reduceEqDiff, Nat.reduceLT, Nat.reduceLeDiff, Nat.reduceAdd, Nat.reduceMul, Nat.reduceSub, reduceCtorEq, Nat.reduceMod, Nat.reduceBEq, Int.reduceBEq, Int.reduceBNe, Int.reduceToNat, f115]
                                · simp -implicitDefEqProofs only [go_sem, ↓reduceIte, Nat.reduceEqDiff, Nat.reduceLT, Nat.reduceLeDiff, Nat.reduceAdd, Nat.reduceMul, Nat.reduceSub, reduceCtorEq, Nat.reduceMod, Nat.reduceBEq, Int.reduceBEq, Int.reduceBNe, Int.reduceToNat, f116]
                                · simp -implicitDefEqProofs only [go_sem, ↓reduceIte, Nat.reduceEqDiff, Nat.reduceLT, Nat.reduceLeDiff, Nat.reduceAdd, Nat.reduceMul, Nat.reduceSub, reduceCtorEq, Nat.reduceMod, Nat.reduceBEq, Int.reduceBEq, Int.reduceBNe, Int.reduceToNat]
                                · simp -implicitDefEqProofs only [go_sem, ↓reduceIte, Nat.reduceEqDiff, Nat.reduceLT, Nat.reduceLeDiff, Nat.reduceAdd, Nat.reduceMul, Nat.reduceSub, reduceCtorEq, Nat.reduceMod, Nat.reduceBEq, Int.reduceBEq, Int.reduceBNe, Int.reduceToNat]
                                  omega
                            · have hcc : ¬ (k2 : Int) < l.rows.length := by omega
                              simp -implicitDefEqProofs only [go_sem, ↓reduceIte, Nat.reduceEqDiff, Nat.reduceLT, Nat.reduceLeDiff, Nat.reduceAdd, Nat.reduceMul, Nat.reduceSub, reduceCtorEq, Nat.reduceMod, Nat.reduceBEq, Int.reduceBEq, Int.reduceBNe, Int.reduceToNat, hcc]
                              refine hQ2 _ _ _ ?_
                              rw [show l.rows.take k2 = l.rows from List.take_of_length_le (by omega), hsm]
                              have hpl : (l.rows.take (y.i - l.i - 1).toNat).length ≤ 100000 := by rw [List.length_take]; omega
                              generalize hP : l.rows.take (y.i - l.i - 1).toNat = P at hjf hpl ⊢
                              have htk : List.take (more.length - k) (List.drop k more) = more.drop k := List.take_of_length_le (by simp)
                              have hcut : 0 ≤ (k : Int) ∧ (k : Int) ≤ more.length ∧ (more.length : Int) ≤ more.length := by omega
                              have hap : (P.length + (more.length - k)) * 40 ≤ 140737488355328 ∧ P.length + (more.length - k) ≤ 140737488355328 := by omega
                              simp -implicitDefEqProofs only [go_sem, ↓reduceIte, Nat.reduceEqDiff, Nat.reduceLT, Nat.reduceLeDiff, Nat.reduceAdd, Nat.reduceMul, Nat.reduceSub, reduceCtorEq, Nat.reduceMod, Nat.reduceBEq, Int.reduceBEq, Int.reduceBNe, Int.reduceToNat]
                              refine mid_wp (fun e2 S3 => S3 = S'.set id (some [.int .i64 l.i, .int .i64 l.t, .sl .tail 3 (encL (P ++ more.drop k))]) ∧ e2 3 = .sl .no 3 (encL more) ∧ e2 8 = .fresh 3 ∧ e2 16 = .int .i64 k ∧ e2 17 = .ip [.int .i64 y.i, .int .i64 y.t, .sl .no 1 (encD y.d)] 0 ∧ e2 19 = .bool (atF l y.i).2 ∧ e2 22 = .ref id 0) ?_ ?_
                              · rintro e2 S3 ⟨rfl, g3, g8, g16, g17, g19, g22⟩
                                rw [b2] at g19
                                simp -implicitDefEqProofs only [go_sem, ↓reduceIte, Nat.reduceEqDiff, Nat.reduceLT, Nat.reduceLeDiff, Nat.reduceAdd, Nat.reduceMul, Nat.reduceSub, reduceCtorEq, Nat.reduceMod, Nat.reduceBEq, Int.reduceBEq, Int.reduceBNe, Int.reduceToNat, g19, g17]
                                refine vwp_draw (by decide +kernel) ?_
                                simp -implicitDefEqProofs only [go_sem, ↓reduceIte, Nat.reduceEqDiff, Nat.reduceLT, Nat.reduceLeDiff, Nat.reduceAdd, Nat.reduceMul, Nat.reduceSub, reduceCtorEq, Nat.reduceMod, Nat.reduceBEq, Int.reduceBEq, Int.reduceBNe, Int.reduceToNat, g3, g8, g16, g22, hcut, htk]
                                refine hQ _ _ _ ?_
                                simp -implicitDefEqProofs only [go_sem, ↓reduceIte, Nat.reduceEqDiff, Nat.reduceLT, Nat.reduceLeDiff, Nat.reduceAdd, Nat.reduceMul, Nat.reduceSub, reduceCtorEq, Nat.reduceMod, Nat.reduceBEq, Int.reduceBEq, Int.reduceBNe, Int.reduceToNat]
                                rw [hjf, b2] at hK
                                exact ⟨S', set_drop hid (fun _ _ h => h), hK⟩
                              · intro W' hW
                                refine vwp_tree (t := (.alt (.one 0 (.alt (.one 1 (.alt (.one 2 (.one 3 (.one 4 (.one 5 (.one 6 (.one 7 .done)))))) (.one 3 (.one 2 (.one 4 (.one 5 (.one 6 (.one 7 .done)))))))) (.alt (.one 2 (.alt (.one 1 (.one 3 (.one 4 (.one 5 (.one 6 (.one 7 .done)))))) (.one 3 (.alt (.one 1 (.one 4 (.one 5 (.one 6 (.one 7 .done))))) (.one 4 (.one 1 (.one 5 (.one 6 (.one 7 .done))))))))) (.one 3 (.alt (.one 1 (.one 2 (.one 4 (.one 5 (.one 6 (.one 7 .done)))))) (.one 2 (.alt (.one 1 (.one 4 (.one 5 (.one 6 (.one 7 .done))))) (.one 4 (.one 1 (.one 5 (.one 6 (.one 7 .done)))))))))))) (.alt (.one 2 (.alt (.one 0 (.alt (.one 1 (.one 3 (.one 4 (.one 5 (.one 6 (.one 7 .done)))))) (.one 3 (.alt (.one 1 (.one 4 (.one 5 (.one 6 (.one 7 .done))))) (.one 4 (.one 1 (.one 5 (.one 6 (.one 7 .done))))))))) (.one 3 (.alt (.one 0 (.alt (.one 1 (.one 4 (.one 5 (.one 6 (.one 7 .done))))) (.one 4 (.one 1 (.one 5 (.one 6 (.one 7 .done))))))) (.one 4 (.one 0 (.one 1 (.one 5 (.one 6 (.one 7 .done)))))))))) (.one 3 (.alt (.one 0 (.alt (.one 1 (.one 2 (.one 4 (.one 5 (.one 6 (.one 7 .done)))))) (.one 2 (.alt (.one 1 (.one 4 (.one 5 (.one 6 (.one 7 .done))))) (.one 4 (.one 1 (.one 5 (.one 6 (.one 7 .done))))))))) (.one 2 (.alt (.one 0 (.alt (.one 1 (.one 4 (.one 5 (.one 6 (.one 7 .done))))) (.one 4 (.one 1 (.one 5 (.one 6 (.one 7 .done))))))) (.one 4 (.one 0 (.one 1 (.one 5 (.one 6 (.one 7 .done))))))))))))) (by decide +kernel) ?_
                                simp -implicitDefEqProofs only [go_sem, ↓reduceIte, Nat.reduceEqDiff, Nat.reduceLT, Nat.reduceLeDiff, Nat.reduceAdd, Nat.reduceMul, Nat.reduceSub, reduceCtorEq, Nat.reduceMod, Nat.reduceBEq, Int.reduceBEq, Int.reduceBNe, Int.reduceToNat, f3, f16, f22, hcut, htk, hap, List.length_drop]
                                have go : ∀ e2 : Env, e2 3 = .sl .no 3 (encL more) → e2 8 = .fresh 3 → e2 16 = .int .i64 k → e2 17 = .ip [.int .i64 y.i, .int .i64 y.t, .sl .no 1 (encD y.d)] 0 → e2 19 = .bool (atF l y.i).2 → e2 22 = .ref id 0 → W' e2 (S'.set id (some [.int .i64 l.i, .int .i64 l.t, .sl .tail 3 (encL P ++ encL (more.drop k))])) := by
                                  intro e2 g3 g8 g16 g17 g19 g22
                                  rw [← encL_app]
                                  exact hW _ _ ⟨rfl, g3, g8, g16, g17, g19, g22⟩
                                repeat' (first | (refine go _ ?_ ?_ ?_ ?_ ?_ ?_ <;> simp -implicitDefEqProofs only [go_sem, ↓reduceIte, Nat.reduceEqDiff, Nat.reduceLT, Nat.reduceLeDiff, Nat.reduceAdd, Nat.reduceMul, Nat.reduceSub, reduceCtorEq, Nat.reduceMod, Nat.reduceBEq, Int.reduceBEq, Int.reduceBNe, Int.reduceToNat, f3, f8, f16, f17, f19, f22]) | refine And.intro ?_ ?_)
                      · have b3' : (atF l y.i).1 = y.t := by simpa using b3
                        simp -implicitDefEqProofs only [go_sem, ↓reduceIte, Nat.reduceEqDiff, Nat.reduceLT, Nat.reduceLeDiff, Nat.reduceAdd, Nat.reduceMul, Nat.reduceSub, reduceCtorEq, Nat.reduceMod, Nat.reduceBEq, Int.reduceBEq, Int.reduceBNe, Int.reduceToNat, b2, b3, h70, hk1]
                        refine next (.inr ⟨b2, b3'⟩) _ ?_ ?_ ?_ ?_ ?_ ?_ <;> simp -implicitDefEqProofs only [go_sem, ↓reduceIte, Nat.reduceEqDiff, Nat.reduceLT, Nat.reduceLeDiff, Nat.reduceAdd, Nat.reduceMul, Nat.reduceSub, reduceCtorEq, Nat.reduceMod, Nat.reduceBEq, Int.reduceBEq, Int.reduceBNe, Int.reduceToNat, h68, h69, h4, h8, h3]
                · have hc : ¬ (k : Int) < more.length := by omega
                  simp -implicitDefEqProofs only [go_sem, ↓reduceIte, Nat.reduceEqDiff, Nat.reduceLT, Nat.reduceLeDiff, Nat.reduceAdd, Nat.reduceMul, Nat.reduceSub, reduceCtorEq, Nat.reduceMod, Nat.reduceBEq, Int.reduceBEq, Int.reduceBNe, Int.reduceToNat, hc]
                  refine hQ _ _ _ ?_
                  simp -implicitDefEqProofs only [go_sem, ↓reduceIte, Nat.reduceEqDiff, Nat.reduceLT, Nat.reduceLeDiff, Nat.reduceAdd, Nat.reduceMul, Nat.reduceSub, reduceCtorEq, Nat.reduceMod, Nat.reduceBEq, Int.reduceBEq, Int.reduceBNe, Int.reduceToNat, h4, h8]
                  rw [List.drop_of_length_le (by omega)] at hj
                  have hjf : joinF l x t more = ⟨l, 0, [], true⟩ := by
                    unfold joinF; rw [h, hmt]; simp only [if_true]; rw [hj]; rfl
                  rw [hjf] at hK
                  exact ⟨S', fun _ _ h => h, hK⟩
            · simp -implicitDefEqProofs only [go_sem, ↓reduceIte, Nat.reduceEqDiff, Nat.reduceLT, Nat.reduceLeDiff, Nat.reduceAdd, Nat.reduceMul, Nat.reduceSub, reduceCtorEq, Nat.reduceMod, Nat.reduceBEq, Int.reduceBEq, Int.reduceBNe, Int.reduceToNat, a6]
              exact bad (by
                simp only [bne_iff_ne, ne_eq] at a6
                simp [meets, a6]
                omega)
        · simp -implicitDefEqProofs only [go_sem, ↓reduceIte, Nat.reduceEqDiff, Nat.reduceLT, Nat.reduceLeDiff, Nat.reduceAdd, Nat.reduceMul, Nat.reduceSub, reduceCtorEq, Nat.reduceMod, Nat.reduceBEq, Int.reduceBEq, Int.reduceBNe, Int.reduceToNat, a4]
          have hmt : meets l x t more = true := by
            simp [meets, a1, a2]
            omega
          refine vloop (fun e S' => S' = S ∧ ∃ k : Nat, k ≤ more.length ∧ x + k ≤ (lastF l.i l.t l.rows).1 ∧ e 68 = .sl .no 3 (encL more) ∧ e 69 = .int .i64 more.length ∧ e 70 = .int .i64 k ∧ e 4 = .ip [.int .i64 l.i, .int .i64 l.t, .sl .no 3 (encL l.rows)] 0 ∧ e 8 = .fresh 3 ∧ e 3 = .sl .no 3 (encL more) ∧ joinGo l more = joinGo l (more.drop k)) (fun e _ => more.length - iv (e 70)) ?_ ?_
          · exact ⟨rfl, 0, Nat.zero_le _, by omega, rfl, rfl, rfl, rfl, rfl, rfl, rfl⟩
          · rintro J M Q' hJ hM hQ e S' ⟨rfl, k, hk, hxk, h68, h69, h70, h4, h8, h3, hj⟩
            simp -implicitDefEqProofs only [go_sem, ↓reduceIte, Nat.reduceEqDiff, Nat.reduceLT, Nat.reduceLeDiff, Nat.reduceAdd, Nat.reduceMul, Nat.reduceSub, reduceCtorEq, Nat.reduceMod, Nat.reduceBEq, Int.reduceBEq, Int.reduceBNe, Int.reduceToNat, h69, h70]
            by_cases hlt : k < more.length
            · obtain ⟨y, hy⟩ : ∃ y, more[k]? = some y := ⟨_, List.getElem?_eq_getElem hlt⟩
              have hdy : more.drop k = y :: more.drop (k + 1) := by
                rw [List.drop_eq_getElem_cons hlt]
                rw [List.getElem?_eq_getElem hlt] at hy
                injection hy with hy
                rw [hy]
              rw [hdy] at hj
              obtain ⟨y1, y2, y3, y4, y5, y6⟩ := rise_get more x t a2 k y hy
              have y7 := within_iff.1 y2
              have y8 := within_iff.1 y3
              have hin : (0 : Int) ≤ k ∧ (k : Int) < more.length := by omega
              have hk1 : IntKind.i64.wrap ((k : Int) + 1) = ((k + 1 : Nat) : Int) := wrap64 (by omega) (by omega)
              simp -implicitDefEqProofs only [go_sem, ↓reduceIte, Nat.reduceEqDiff, Nat.reduceLT, Nat.reduceLeDiff, Nat.reduceAdd, Nat.reduceMul, Nat.reduceSub, reduceCtorEq, Nat.reduceMod, Nat.reduceBEq, Int.reduceBEq, Int.reduceBNe, Int.reduceToNat, hin, h68, h69, h70, h4, getD_encL hy, encE]
              refine refAt_spec l y.i h hl _ _ ?_
              simp -implicitDefEqProofs only [go_sem, ↓reduceIte, Nat.reduceEqDiff, Nat.reduceLT, Nat.reduceLeDiff, Nat.reduceAdd, Nat.reduceMul, Nat.reduceSub, reduceCtorEq, Nat.reduceMod, Nat.reduceBEq, Int.reduceBEq, Int.reduceBNe, Int.reduceToNat, h4]
              have skip : (y.i ≤ l.i ∨ ((atF l y.i).2 = true ∧ (atF l y.i).1 = y.t)) → x + ((k + 1 : Nat) : Int) ≤ (lastF l.i l.t l.rows).1 ∧ joinGo l more = joinGo l (more.drop (k + 1)) := by
                intro hs
                refine ⟨?_, by rw [hj, joinGo, if_pos hs]⟩
                rcases hs with hs | hs
                · omega
                · have := at_le h hs.1
                  omega
              have next : (y.i ≤ l.i ∨ ((atF l y.i).2 = true ∧ (atF l y.i).1 = y.t)) → ∀ e' : Env, e' 68 = .sl .no 3 (encL more) → e' 69 = .int .i64 more.length → e' 70 = .int .i64 ((k + 1 : Nat) : Int) → e' 4 = .ip [.int .i64 l.i, .int .i64 l.t, .sl .no 3 (encL l.rows)] 0 → e' 8 = .fresh 3 → e' 3 = .sl .no 3 (encL more) → loopK J M (more.length - iv (e 70)) Q' .normal e' S' := by
                intro hs e' g68 g69 g70 g4 g8 g3
                obtain ⟨s1, s2⟩ := skip hs
                refine vnext hJ hM S' (fun _ _ h => h) ⟨rfl, k + 1, hlt, s1, g68, g69, g70, g4, g8, g3, s2⟩ ?_
                rw [g70, h70]
                simp only [iv_int, Int.toNat_natCast]
                omega
              rw [h70] at next
              by_cases b1 : y.i ≤ l.i
              · simp -implicitDefEqProofs only [go_sem, ↓reduceIte, Nat.reduceEqDiff, Nat.reduceLT, Nat.reduceLeDiff, Nat.reduceAdd, Nat.reduceMul, Nat.reduceSub, reduceCtorEq, Nat.reduceMod, Nat.reduceBEq, Int.reduceBEq, Int.reduceBNe, Int.reduceToNat, b1, h70, hk1]
                refine next (.inl b1) _ ?_ ?_ ?_ ?_ ?_ ?_ <;> simp -implicitDefEqProofs only [go_sem, ↓reduceIte, Nat.reduceEqDiff, Nat.reduceLT, Nat.reduceLeDiff, Nat.reduceAdd, Nat.reduceMul, Nat.reduceSub, reduceCtorEq, Nat.reduceMod, Nat.reduceBEq, Int.reduceBEq, Int.reduceBNe, Int.reduceToNat, h68, h69, h4, h8, h3]
              · simp -implicitDefEqProofs only [go_sem, ↓reduceIte, Nat.reduceEqDiff, Nat.reduceLT, Nat.reduceLeDiff, Nat.reduceAdd, Nat.reduceMul, Nat.reduceSub, reduceCtorEq, Nat.reduceMod, Nat.reduceBEq, Int.reduceBEq, Int.reduceBNe, Int.reduceToNat, b1]
                rcases (Bool.eq_false_or_eq_true (atF l y.i).2).symm with b2 | b2
                · have hs : ¬ (y.i ≤ l.i ∨ ((atF l y.i).2 = true ∧ (atF l y.i).1 = y.t)) := by
                    rw [b2]; simp; omega
                  simp -implicitDefEqProofs only [go_sem, ↓reduceIte, Nat.reduceEqDiff, Nat.reduceLT, Nat.reduceLeDiff, Nat.reduceAdd, Nat.reduceMul, Nat.reduceSub, reduceCtorEq, Nat.reduceMod, Nat.reduceBEq, Int.reduceBEq, Int.reduceBNe, Int.reduceToNat, b2]
                  have hb1 : IntKind.i64.wrap (y.i - 1) = y.i - 1 := wrap64 (by omega) (by omega)
                  simp -implicitDefEqProofs only [go_sem, ↓reduceIte, Nat.reduceEqDiff, Nat.reduceLT, Nat.reduceLeDiff, Nat.reduceAdd, Nat.reduceMul, Nat.reduceSub, reduceCtorEq, Nat.reduceMod, Nat.reduceBEq, Int.reduceBEq, Int.reduceBNe, Int.reduceToNat, h4, hb1]
                  refine refAt_spec l (y.i - 1) h hl _ _ ?_
                  simp -implicitDefEqProofs only [go_sem, ↓reduceIte, Nat.reduceEqDiff, Nat.reduceLT, Nat.reduceLeDiff, Nat.reduceAdd, Nat.reduceMul, Nat.reduceSub, reduceCtorEq, Nat.reduceMod, Nat.reduceBEq, Int.reduceBEq, Int.reduceBNe, Int.reduceToNat]
                  by_cases b4 : y.t < (atF l (y.i - 1)).1
                  · simp -implicitDefEqProofs only [go_sem, ↓reduceIte, Nat.reduceEqDiff, Nat.reduceLT, Nat.reduceLeDiff, Nat.reduceAdd, Nat.reduceMul, Nat.reduceSub, reduceCtorEq, Nat.reduceMod, Nat.reduceBEq, Int.reduceBEq, Int.reduceBNe, Int.reduceToNat, b4, h4, h8]
                    refine hQ _ _ _ ?_
                    simp -implicitDefEqProofs only [go_sem, ↓reduceIte, Nat.reduceEqDiff, Nat.reduceLT, Nat.reduceLeDiff, Nat.reduceAdd, Nat.reduceMul, Nat.reduceSub, reduceCtorEq, Nat.reduceMod, Nat.reduceBEq, Int.reduceBEq, Int.reduceBNe, Int.reduceToNat]
                    have hjf : joinF l x t more = ⟨l, 0, [], false⟩ := by
                      unfold joinF; rw [h, hmt]; simp only [if_true]; rw [hj, joinGo, if_neg hs, if_pos b4]
                    rw [hjf] at hK
                    exact ⟨S', fun _ _ h => h, hK⟩
                  · simp -implicitDefEqProofs only [go_sem, ↓reduceIte, Nat.reduceEqDiff, Nat.reduceLT, Nat.reduceLeDiff, Nat.reduceAdd, Nat.reduceMul, Nat.reduceSub, reduceCtorEq, Nat.reduceMod, Nat.reduceBEq, Int.reduceBEq, Int.reduceBNe, Int.reduceToNat, b4, h4]
                    intro id hid
                    have hjf : joinF l x t more = ⟨⟨l.i, l.t, l.rows.take (y.i - l.i - 1).toNat ++ more.drop k⟩, if (atF l y.i).2 then y.i else 0, more.drop k, true⟩ := by
                      unfold joinF; rw [h, hmt]; simp only [if_true]; rw [hj, joinGo, if_neg hs, if_neg b4, ← hdy]
                    have hsm := filter_take h (x := y.i) (by omega)
                    refine vloop (fun e S2 => ∃ k2 : Nat, S2 = S'.set id (some [.int .i64 l.i, .int .i64 l.t, .sl .tail 3 (encL ((l.rows.take k2).filter fun z => decide (z.i < y.i)))]) ∧ k2 ≤ l.rows.length ∧ e 3 = .sl .no 3 (encL more) ∧ e 8 = .fresh 3 ∧ e 16 = .int .i64 k ∧ e 17 = .ip [.int .i64 y.i, .int .i64 y.t, .sl .no 1 (encD y.d)] 0 ∧ e 19 = .bool (atF l y.i).2 ∧ e 22 = .ref id 0 ∧ e 115 = .sl .no 3 (encL l.rows) ∧ e 116 = .int .i64 l.rows.length ∧ e 117 = .int .i64 k2) (fun e _ => l.rows.length - iv (e 117)) ?_ ?_
                    · refine ⟨0, rfl, Nat.zero_le _, ?_, ?_, ?_, ?_, ?_, ?_, ?_, ?_, rfl⟩ <;> simp -implicitDefEqProofs only [go_sem, ↓reduceIte, Nat.reduceEqDiff, Nat.reduceLT, Nat.reduceLeDiff, Nat.reduceAdd, Nat.reduceMul, Nat.reduceSub, reduceCtorEq, Nat.reduceMod, Nat.reduceBEq, Int.reduceBEq, Int.reduceBNe, Int.reduceToNat, h3, h8, h4, b2]
                    · rintro J2 M2 Q2 hJ2 hM2 hQ2 e' S2 ⟨k2, rfl, hk2, f3, f8, f16, f17, f19, f22, f115, f116, f117⟩
                      simp -implicitDefEqProofs only [go_sem, ↓reduceIte, Nat.reduceEqDiff, Nat.reduceLT, Nat.reduceLeDiff, Nat.reduceAdd, Nat.reduceMul, Nat.reduceSub, reduceCtorEq, Nat.reduceMod, Nat.reduceBEq, Int.reduceBEq, Int.reduceBNe, Int.reduceToNat, f116, f117]
                      by_cases hlt2 : k2 < l.rows.length
                      · obtain ⟨z, hz⟩ : ∃ z, l.rows[k2]? = some z := ⟨_, List.getElem?_eq_getElem hlt2⟩
                        have hin2 : (0 : Int) ≤ k2 ∧ (k2 : Int) < l.rows.length := by omega
                        have hk21 : IntKind.i64.wrap ((k2 : Int) + 1) = ((k2 + 1 : Nat) : Int) := wrap64 (by omega) (by omega)
                        have hst : (l.rows.take (k2 + 1)).filter (fun z => decide (z.i < y.i)) = (l.rows.take k2).filter (fun z => decide (z.i < y.i)) ++ (if decide (z.i < y.i) = true then [z] else []) := by
                          rw [List.take_add_one, hz, List.filter_append]
                          simp only [Option.toList_some, List.filter_cons, List.filter_nil]
                        have hfl : ((l.rows.take k2).filter fun z => decide (z.i < y.i)).length ≤ k2 := Nat.le_trans (List.length_filter_le _ _) (by rw [List.length_take]; omega)
                        generalize hF : (l.rows.take k2).filter (fun z => decide (z.i < y.i)) = F at hst hfl ⊢
                        simp -implicitDefEqProofs only [go_sem, ↓reduceIte, Nat.reduceEqDiff, Nat.reduceLT, Nat.reduceLeDiff, Nat.reduceAdd, Nat.reduceMul, Nat.reduceSub, reduceCtorEq, Nat.reduceMod, Nat.reduceBEq, Int.reduceBEq, Int.reduceBNe, Int.reduceToNat, hin2, f17, f115, f116, f117, getD_encL hz, encE]
                        by_cases c1' : z.i < y.i
                        · rw [decide_eq_true c1', if_pos rfl] at hst
                          have hap : (F.length + 1) * 40 ≤ 140737488355328 ∧ F.length + 1 ≤ 140737488355328 := by omega
                          simp -implicitDefEqProofs only [go_sem, ↓reduceIte, Nat.reduceEqDiff, Nat.reduceLT, Nat.reduceLeDiff, Nat.reduceAdd, Nat.reduceMul, Nat.reduceSub, reduceCtorEq, Nat.reduceMod, Nat.reduceBEq, Int.reduceBEq, Int.reduceBNe, Int.reduceToNat, c1', f22, f117, hap, hk21]
                          refine vnext hJ2 hM2 (S'.set id (some [.int .i64 l.i, .int .i64 l.t, .sl .tail 3 (encL (F ++ [z]))])) ?_ ⟨k2 + 1, by rw [hst], hlt2, ?_, ?_, ?_, ?_, ?_, ?_, ?_, ?_, ?_⟩ ?_
                          · intro i c hi
                            rw [encL_app] at hi
                            exact hi
                          · simp -implicitDefEqProofs only [go_sem, ↓reduceIte, Nat.reduceEqDiff, Nat.reduceLT, Nat.reduceLeDiff, Nat.reduceAdd, Nat.reduceMul, Nat.reduceSub, reduceCtorEq, Nat.reduceMod, Nat.reduceBEq, Int.reduceBEq, Int.reduceBNe, Int.reduceToNat, f3]
                          · simp -implicitDefEqProofs only [go_sem, ↓reduceIte, Nat.reduceEqDiff, Nat.reduceLT, Nat.reduceLeDiff, Nat.reduceAdd, Nat.reduceMul, Nat.reduceSub, reduceCtorEq, Nat.reduceMod, Nat.reduceBEq, Int.reduceBEq, Int.reduceBNe, Int.reduceToNat, f8]
                          · simp -implicitDefEqProofs only [go_sem, ↓reduceIte, Nat.reduceEqDiff, Nat.reduceLT, Nat.reduceLeDiff, Nat.reduceAdd, Nat.reduceMul, Nat.reduceSub, reduceCtorEq, Nat.reduceMod, Nat.reduceBEq, Int.reduceBEq, Int.reduceBNe, Int.reduceToNat, f16]
                          · simp -implicitDefEqProofs only [go_sem, ↓reduceIte, Nat.reduceEqDiff, Nat.reduceLT, Nat.reduceLeDiff, Nat.reduceAdd, Nat.reduceMul, Nat.reduceSub, reduceCtorEq, Nat.reduceMod, Nat.reduceBEq, Int.reduceBEq, Int.reduceBNe, Int.reduceToNat, f17]
                          · simp -implicitDefEqProofs only [go_sem, ↓reduceIte, Nat.reduceEqDiff, Nat.reduceLT, Nat.reduceLeDiff, Nat.reduceAdd, Nat.reduceMul, Nat.reduceSub, reduceCtorEq, Nat.reduceMod, Nat.reduceBEq, Int.reduceBEq, Int.reduceBNe, Int.reduceToNat, f19]
                          · simp -implicitDefEqProofs only [go_sem, ↓reduceIte, Nat.reduceEqDiff, Nat.reduceLT, Nat.reduceLeDiff, Nat.reduceAdd, Nat.reduceMul, Nat.reduceSub, reduceCtorEq, Nat.reduceMod, Nat.reduceBEq, Int.reduceBEq, Int.reduceBNe, Int.reduceToNat, f22]
                          · simp -implicitDefEqProofs only [go_sem, ↓reduceIte, Nat.reduceEqDiff, Nat.reduceLT, Nat.reduceLeDiff, Nat.reduceAdd, Nat.reduceMul, Nat.reduceSub, reduceCtorEq, Nat.reduceMod, Nat.reduceBEq, Int.reduceBEq, Int.reduceBNe, Int.reduceToNat, f115]
                          · simp -implicitDefEqProofs only [go_sem, ↓reduceIte, Nat.reduceEqDiff, Nat.reduceLT, Nat.reduceLeDiff, Nat.reduceAdd, Nat.reduceMul, Nat.reduceSub, reduceCtorEq, Nat.reduceMod, Nat.reduceBEq, Int.reduceBEq, Int.reduceBNe, Int.reduceToNat, f116]
                          · simp -implicitDefEqProofs only [go_sem, ↓reduceIte, Nat.reduceEqDiff, Nat.reduceLT, Nat.reduceLeDiff, Nat.reduceAdd, Nat.reduceMul, Nat.reduceSub, reduceCtorEq, Nat.reduceMod, Nat.reduceBEq, Int.reduceBEq, Int.reduceBNe, Int.reduceToNat]
                          · simp -implicitDefEqProofs only [go_sem, ↓reduceIte, Nat.reduceEqDiff, Nat.reduceLT, Nat.reduceLeDiff, Nat.reduceAdd, Nat.reduceMul, Nat.reduceSub, reduceCtorEq, Nat.reduceMod, Nat.reduceBEq, Int.reduceBEq, Int.reduceBNe, Int.reduceToNat]
                            omega
                        · rw [decide_eq_false c1', if_neg (by simp), List.append_nil] at hst
                          simp -implicitDefEqProofs only [go_sem, ↓reduceIte, Nat.reduceEqDiff, Nat.reduceLT, Nat.reduceLeDiff, Nat.reduceAdd, Nat.reduceMul, Nat.reduceSub, reduceCtorEq, Nat.reduceMod, Nat.reduceBEq, Int.reduceBEq, Int.reduceBNe, Int.reduceToNat, c1', f117, hk21]
                          refine vnext hJ2 hM2 (S'.set id (some [.int .i64 l.i, .int .i64 l.t, .sl .tail 3 (encL F)])) (fun _ _ h => h) ⟨k2 + 1, by rw [hst], hlt2, ?_, ?_, ?_, ?_, ?_, ?_, ?_, ?_, ?_⟩ ?_
                          · simp -implicitDefEqProofs only [go_sem, ↓reduceIte, Nat.reduceEqDiff, Nat.reduceLT, Nat.reduceLeDiff, Nat.reduceAdd, Nat.reduceMul, Nat.reduceSub, reduceCtorEq, Nat.reduceMod, Nat.reduceBEq, Int.reduceBEq, Int.reduceBNe, Int.reduceToNat, f3]
                          · simp -implicitDefEqProofs only [go_sem, ↓reduceIte, Nat.reduceEqDiff, Nat.reduceLT, Nat.reduceLeDiff, Nat.reduceAdd, Nat.reduceMul, Nat.reduceSub, reduceCtorEq, Nat.reduceMod, Nat.reduceBEq, Int.reduceBEq, Int.reduceBNe, Int.reduceToNat, f8]
                          · simp -implicitDefEqProofs only [go_sem, ↓reduceIte, Nat.reduceEqDiff, Nat.reduceLT, Nat.reduceLeDiff, Nat.reduceAdd, Nat.reduceMul, Nat.reduceSub, reduceCtorEq, Nat.reduceMod, Nat.reduceBEq, Int.reduceBEq, Int.reduceBNe, Int.reduceToNat, f16]
                          · simp -implicitDefEqProofs only [go_sem, ↓reduceIte, Nat.reduceEqDiff, Nat.reduceLT, Nat.reduceLeDiff, Nat.reduceAdd, Nat.reduceMul, Nat.reduceSub, reduceCtorEq, Nat.reduceMod, Nat.reduceBEq, Int.reduceBEq, Int.reduceBNe, Int.reduceToNat, f17]
                          · simp -implicitDefEqProofs only [go_sem, ↓reduceIte, Nat.reduceEqDiff, Nat.reduceLT, Nat.reduceLeDiff, Nat.reduceAdd, Nat.reduceMul, Nat.reduceSub, reduceCtorEq, Nat.reduceMod, Nat.reduceBEq, Int.reduceBEq, Int.reduceBNe, Int.reduceToNat, f19]
                          · simp -implicitDefEqProofs only [go_sem, ↓reduceIte, Nat.reduceEqDiff, Nat.reduceLT, Nat.reduceLeDiff, Nat.reduceAdd, Nat.reduceMul, Nat.reduceSub, reduceCtorEq, Nat.reduceMod, Nat.reduceBEq, Int.reduceBEq, Int.reduceBNe, Int.reduceToNat, f22]
                          · simp -implicitDefEqProofs only [go_sem, ↓reduceIte, Nat.reduceEqDiff, Nat.reduceLT, Nat.reduceLeDiff, Nat.reduceAdd, Nat.reduceMul, Nat.reduceSub, reduceCtorEq, Nat.reduceMod, Nat.reduceBEq, Int.reduceBEq, Int.reduceBNe, Int.reduceToNat, f115]
                          · simp -implicitDefEqProofs only [go_sem, ↓reduceIte, Nat.reduceEqDiff, Nat.reduceLT, Nat.reduceLeDiff, Nat.reduceAdd, Nat.reduceMul, Nat.reduceSub, reduceCtorEq, Nat.reduceMod, Nat.reduceBEq, Int.reduceBEq, Int.reduceBNe, Int.reduceToNat, f116]
                          · simp -implicitDefEqProofs only [go_sem, ↓reduceIte, Nat.reduceEqDiff, Nat.reduceLT, Nat.reduceLeDiff, Nat.reduceAdd, Nat.reduceMul, Nat.reduceSub, reduceCtorEq, Nat.reduceMod, Nat.reduceBEq, Int.reduceBEq, Int.reduceBNe, Int.reduceToNat]
                          · simp -implicitDefEqProofs only [go_sem, ↓reduceIte, Nat.reduceEqDiff, Nat.reduceLT, Nat.reduceLeDiff, Nat.reduceAdd, Nat.reduceMul, Nat.reduceSub, reduceCtorEq, Nat.reduceMod, Nat.reduceBEq, Int.reduceBEq, Int.reduceBNe, Int.reduceToNat]
                            omega
                      · have hcc : ¬ (k2 : Int) < l.rows.length := by omega
                        simp -implicitDefEqProofs only [go_sem, ↓reduceIte, Nat.reduceEqDiff, Nat.reduceLT, Nat.reduceLeDiff, Nat.reduceAdd, Nat.reduceMul, Nat.reduceSub, reduceCtorEq, Nat.reduceMod, Nat.reduceBEq, Int.reduceBEq, Int.reduceBNe, Int.reduceToNat, hcc]
                        refine hQ2 _ _ _ ?_
                        rw [show l.rows.take k2 = l.rows from List.take_of_length_le (by omega), hsm]
                        have hpl : (l.rows.take (y.i - l.i - 1).toNat).length ≤ 100000 := by rw [List.length_take]; omega
                        generalize hP : l.rows.take (y.i - l.i - 1).toNat = P at hjf hpl ⊢
                        have htk : List.take (more.length - k) (List.drop k more) = more.drop k := List.take_of_length_le (by simp)
                        have hcut : 0 ≤ (k : Int) ∧ (k : Int) ≤ more.length ∧ (more.length : Int) ≤ more.length := by omega
                        have hap : (P.length + (more.length - k)) * 40 ≤ 140737488355328 ∧ P.length + (more.length - k) ≤ 140737488355328 := by omega
                        simp -implicitDefEqProofs only [go_sem, ↓reduceIte, Nat.reduceEqDiff, Nat.reduceLT, Nat.reduceLeDiff, Nat.reduceAdd, Nat.reduceMul, Nat.reduceSub, reduceCtorEq, Nat.reduceMod, Nat.reduceBEq, Int.reduceBEq, Int.reduceBNe, Int.reduceToNat]
                        refine mid_wp (fun e2 S3 => S3 = S'.set id (some [.int .i64 l.i, .int .i64 l.t, .sl .tail 3 (encL (P ++ more.drop k))]) ∧ e2 3 = .sl .no 3 (encL more) ∧ e2 8 = .fresh 3 ∧ e2 16 = .int .i64 k ∧ e2 17 = .ip [.int .i64 y.i, .int .i64 y.t, .sl .no 1 (encD y.d)] 0 ∧ e2 19 = .bool (atF l y.i).2 ∧ e2 22 = .ref id 0) ?_ ?_
                        · rintro e2 S3 ⟨rfl, g3, g8, g16, g17, g19, g22⟩
                          rw [b2] at g19
                          simp -implicitDefEqProofs only [go_sem, ↓reduceIte, Nat.reduceEqDiff, Nat.reduceLT, Nat.reduceLeDiff, Nat.reduceAdd, Nat.reduceMul, Nat.reduceSub, reduceCtorEq, Nat.reduceMod, Nat.reduceBEq, Int.reduceBEq, Int.reduceBNe, Int.reduceToNat, g19, g17]
                          refine vwp_draw (by decide +kernel) ?_
                          simp -implicitDefEqProofs only [go_sem, ↓reduceIte, Nat.reduceEqDiff, Nat.reduceLT, Nat.reduceLeDiff, Nat.reduceAdd, Nat.reduceMul, Nat.reduceSub, reduceCtorEq, Nat.reduceMod, Nat.reduceBEq, Int.reduceBEq, Int.reduceBNe, Int.reduceToNat, g3, g8, g16, g22, hcut, htk]
                          refine hQ _ _ _ ?_
                          simp -implicitDefEqProofs only [go_sem, ↓reduceIte, Nat.reduceEqDiff, Nat.reduceLT, Nat.reduceLeDiff, Nat.reduceAdd, Nat.reduceMul, Nat.reduceSub, reduceCtorEq, Nat.reduceMod, Nat.reduceBEq, Int.reduceBEq, Int.reduceBNe, Int.reduceToNat]
                          rw [hjf, b2] at hK
                          exact ⟨S', set_drop hid (fun _ _ h => h), hK⟩
                        · intro W' hW
                          refine vwp_tree (t := (.alt (.one 0 (.alt (.one 1 (.alt (.one 2 (.one 3 (.one 4 (.one 5 (.one 6 (.one 7 .done)))))) (.one 3 (.one 2 (.one 4 (.one 5 (.one 6 (.one 7 .done)))))))) (.alt (.one 2 (.alt (.one 1 (.one 3 (.one 4 (.one 5 (.one 6 (.one 7 .done)))))) (.one 3 (.alt (.one 1 (.one 4 (.one 5 (.one 6 (.one 7 .done))))) (.one 4 (.one 1 (.one 5 (.one 6 (.one 7 .done))))))))) (.one 3 (.alt (.one 1 (.one 2 (.one 4 (.one 5 (.one 6 (.one 7 .done)))))) (.one 2 (.alt (.one 1 (.one 4 (.one 5 (.one 6 (.one 7 .done))))) (.one 4 (.one 1 (.one 5 (.one 6 (.one 7 .done)))))))))))) (.alt (.one 2 (.alt (.one 0 (.alt (.one 1 (.one 3 (.one 4 (.one 5 (.one 6 (.one 7 .done)))))) (.one 3 (.alt (.one 1 (.one 4 (.one 5 (.one 6 (.one 7 .done))))) (.one 4 (.one 1 (.one 5 (.one 6 (.one 7 .done))))))))) (.one 3 (.alt (.one 0 (.alt (.one 1 (.one 4 (.one 5 (.one 6 (.one 7 .done))))) (.one 4 (.one 1 (.one 5 (.one 6 (.one 7 .done))))))) (.one 4 (.one 0 (.one 1 (.one 5 (.one 6 (.one 7 .done)))))))))) (.one 3 (.alt (.one 0 (.alt (.one 1 (.one 2 (.one 4 (.one 5 (.one 6 (.one 7 .done)))))) (.one 2 (.alt (.one 1 (.one 4 (.one 5 (.one 6 (.one 7 .done))))) (.one 4 (.one 1 (.one 5 (.one 6 (.one 7 .done))))))))) (.one 2 (.alt (.one 0 (.alt (.one 1 (.one 4 (.one 5 (.one 6 (.one 7 .done))))) (.one 4 (.one 1 (.one 5 (.one 6 (.one 7 .done))))))) (.one 4 (.one 0 (.one 1 (.one 5 (.one 6 (.one 7 .done))))))))))))) (by decide +kernel) ?_
                          simp -implicitDefEqProofs only [go_sem, ↓reduceIte, Nat.reduceEqDiff, Nat.reduceLT, Nat.reduceLeDiff, Nat.reduceAdd, Nat.reduceMul, Nat.reduceSub, reduceCtorEq, Nat.reduceMod, Nat.reduceBEq, Int.reduceBEq, Int.reduceBNe, Int.reduceToNat, f3, f16, f22, hcut, htk, hap, List.length_drop]
                          have go : ∀ e2 : Env, e2 3 = .sl .no 3 (encL more) → e2 8 = .fresh 3 → e2 16 = .int .i64 k → e2 17 = .ip [.int .i64 y.i, .int .i64 y.t, .sl .no 1 (encD y.d)] 0 → e2 19 = .bool (atF l y.i).2 → e2 22 = .ref id 0 → W' e2 (S'.set id (some [.int .i64 l.i, .int .i64 l.t, .sl .tail 3 (encL P ++ encL (more.drop k))])) := by
                            intro e2 g3 g8 g16 g17 g19 g22
                            rw [← encL_app]
                            exact hW _ _ ⟨rfl, g3, g8, g16, g17, g19, g22⟩
                          repeat' (first | (refine go _ ?_ ?_ ?_ ?_ ?_ ?_ <;> simp -implicitDefEqProofs only [go_sem, ↓reduceIte, Nat.reduceEqDiff, Nat.reduceLT, Nat.reduceLeDiff, Nat.reduceAdd, Nat.reduceMul, Nat.reduceSub, reduceCtorEq, Nat.reduceMod, Nat.reduceBEq, Int.reduceBEq, Int.reduceBNe, Int.reduceToNat, f3, f8, f16, f17, f19, f22]) | refine And.intro ?_ ?_)
                · rcases (Bool.eq_false_or_eq_true ((atF l y.i).1 == y.t)).symm with b3 | b3
                  · have hs : ¬ (y.i ≤ l.i ∨ ((atF l y.i).2 = true ∧ (atF l y.i).1 = y.t)) := by
                      simp only [beq_eq_false_iff_ne, ne_eq] at b3
                      rw [b2]; simp [b3]; omega
                    simp -implicitDefEqProofs only [go_sem, ↓reduceIte, Nat.reduceEqDiff, Nat.reduceLT, Nat.reduceLeDiff, Nat.reduceAdd, Nat.reduceMul, Nat.reduceSub, reduceCtorEq, Nat.reduceMod, Nat.reduceBEq, Int.reduceBEq, Int.reduceBNe, Int.reduceToNat, b2, b3]
                    have hb1 : IntKind.i64.wrap (y.i - 1) = y.i - 1 := wrap64 (by omega) (by omega)
                    simp -implicitDefEqProofs only [go_sem, ↓reduceIte, Nat.reduceEqDiff, Nat.reduceLT, Nat.reduceLeDiff, Nat.reduceAdd, Nat.reduceMul, Nat.reduceSub, reduceCtorEq, Nat.reduceMod, Nat.reduceBEq, Int.reduceBEq, Int.reduceBNe, Int.reduceToNat, h4, hb1]
                    refine refAt_spec l (y.i - 1) h hl _ _ ?_
                    simp -implicitDefEqProofs only [go_sem, ↓reduceIte, Nat.reduceEqDiff, Nat.reduceLT, Nat.reduceLeDiff, Nat.reduceAdd, Nat.reduceMul, Nat.reduceSub, reduceCtorEq, Nat.reduceMod, Nat.reduceBEq, Int.reduceBEq, Int.reduceBNe, Int.reduceToNat]
                    by_cases b4 : y.t < (atF l (y.i - 1)).1
                    · simp -implicitDefEqProofs only [go_sem, ↓reduceIte, Nat.reduceEqDiff, Nat.reduceLT, Nat.reduceLeDiff, Nat.reduceAdd, Nat.reduceMul, Nat.reduceSub, reduceCtorEq, Nat.reduceMod, Nat.reduceBEq, Int.reduceBEq, Int.reduceBNe, Int.reduceToNat, b4, h4, h8]
                      refine hQ _ _ _ ?_
                      simp -implicitDefEqProofs only [go_sem, ↓reduceIte, Nat.reduceEqDiff, Nat.reduceLT, Nat.reduceLeDiff, Nat.reduceAdd, Nat.reduceMul, Nat.reduceSub, reduceCtorEq, Nat.reduceMod, Nat.reduceBEq, Int.reduceBEq, Int.reduceBNe, Int.reduceToNat]
                      have hjf : joinF l x t more = ⟨l, 0, [], false⟩ := by
                        unfold joinF; rw [h, hmt]; simp only [if_true]; rw [hj, joinGo, if_neg hs, if_pos b4]
                      rw [hjf] at hK
                      exact ⟨S', fun _ _ h => h, hK⟩
                    · simp -implicitDefEqProofs only [go_sem, ↓reduceIte, Nat.reduceEqDiff, Nat.reduceLT, Nat.reduceLeDiff, Nat.reduceAdd, Nat.reduceMul, Nat.reduceSub, reduceCtorEq, Nat.reduceMod, Nat.reduceBEq, Int.reduceBEq, Int.reduceBNe, Int.reduceToNat, b4, h4]
                      intro id hid
                      have hjf : joinF l x t more = ⟨⟨l.i, l.t, l.rows.take (y.i - l.i - 1).toNat ++ more.drop k⟩, if (atF l y.i).2 then y.i else 0, more.drop k, true⟩ := by
                        unfold joinF; rw [h, hmt]; simp only [if_true]; rw [hj, joinGo, if_neg hs, if_neg b4, ← hdy]
                      have hsm := filter_take h (x := y.i) (by omega)
                      refine vloop (fun e S2 => ∃ k2 : Nat, S2 = S'.set id (some [.int .i64 l.i, .int .i64 l.t, .sl .tail 3 (encL ((l.rows.take k2).filter fun z => decide (z.i < y.i)))]) ∧ k2 ≤ l.rows.length ∧ e 3 = .sl .no 3 (encL more) ∧ e 8 = .fresh 3 ∧ e 16 = .int .i64 k ∧ e 17 = .ip [.int .i64 y.i, .int .i64 y.t, .sl .no 1 (encD y.d)] 0 ∧ e 19 = .bool (atF l y.i).2 ∧ e 22 = .ref id 0 ∧ e 115 = .sl .no 3 (encL l.rows) ∧ e 116 = .int .i64 l.rows.length ∧ e 117 = .int .i64 k2) (fun e _ => l.rows.length - iv (e 117)) ?_ ?_
                      · refine ⟨0, rfl, Nat.zero_le _, ?_, ?_, ?_, ?_, ?_, ?_, ?_, ?_, rfl⟩ <;> simp -implicitDefEqProofs only [go_sem, ↓reduceIte, Nat.reduceEqDiff, Nat.reduceLT, Nat.reduceLeDiff, Nat.reduceAdd, Nat.reduceMul, Nat.reduceSub, reduceCtorEq, Nat.reduceMod, Nat.reduceBEq, Int.reduceBEq, Int.reduceBNe, Int.reduceToNat, h3, h8, h4, b2]
                      · rintro J2 M2 Q2 hJ2 hM2 hQ2 e' S2 ⟨k2, rfl, hk2, f3, f8, f16, f17, f19, f22, f115, f116, f117⟩
                        simp -implicitDefEqProofs only [go_sem, ↓reduceIte, Nat.reduceEqDiff, Nat.reduceLT, Nat.reduceLeDiff, Nat.reduceAdd, Nat.reduceMul, Nat.reduceSub, reduceCtorEq, Nat.reduceMod, Nat.reduceBEq, Int.reduceBEq, Int.reduceBNe, Int.reduceToNat, f116, f117]
                        by_cases hlt2 : k2 < l.rows.length
                        · obtain ⟨z, hz⟩ : ∃ z, l.rows[k2]? = some z := ⟨_, List.getElem?_eq_getElem hlt2⟩
                          have hin2 : (0 : Int) ≤ k2 ∧ (k2 : Int) < l.rows.length := by omega
                          have hk21 : IntKind.i64.wrap ((k2 : Int) + 1) = ((k2 + 1 : Nat) : Int) := wrap64 (by omega) (by omega)
                          have hst : (l.rows.take (k2 + 1)).filter (fun z => decide (z.i < y.i)) = (l.rows.take k2).filter (fun z => decide (z.i < y.i)) ++ (if decide (z.i < y.i) = true then [z] else []) := by
                            rw [List.take_add_one, hz, List.filter_append]
                            simp only [Option.toList_some, List.filter_cons, List.filter_nil]
                          have hfl : ((l.rows.take k2).filter fun z => decide (z.i < y.i)).length ≤ k2 := Nat.le_trans (List.length_filter_le _ _) (by rw [List.length_take]; omega)
                          generalize hF : (l.rows.take k2).filter (fun z => decide (z.i < y.i)) = F at hst hfl ⊢
                          simp -implicitDefEqProofs only [go_sem, ↓reduceIte, Nat.reduceEqDiff, Nat.reduceLT, Nat.reduceLeDiff, Nat.reduceAdd, Nat.reduceMul, Nat.reduceSub, reduceCtorEq, Nat.reduceMod, Nat.reduceBEq, Int.reduceBEq, Int.reduceBNe, Int.reduceToNat, hin2, f17, f115, f116, f117, getD_encL hz, encE]
                          by_cases c1' : z.i < y.i
                          · rw [decide_eq_true c1', if_pos rfl] at hst
                            have hap : (F.length + 1) * 40 ≤ 140737488355328 ∧ F.length + 1 ≤ 140737488355328 := by omega
                            simp -implicitDefEqProofs only [go_sem, ↓reduceIte, Nat.reduceEqDiff, Nat.reduceLT, Nat.reduceLeDiff, Nat.reduceAdd, Nat.reduceMul, Nat.reduceSub, reduceCtorEq, Nat.reduceMod, Nat.reduceBEq, Int.reduceBEq, Int.reduceBNe, Int.reduceToNat, c1', f22, f117, hap, hk21]
                            refine vnext hJ2 hM2 (S'.set id (some [.int .i64 l.i, .int .i64 l.t, .sl .tail 3 (encL (F ++ [z]))])) ?_ ⟨k2 + 1, by rw [hst], hlt2, ?_, ?_, ?_, ?_, ?_, ?_, ?_, ?_, ?_⟩ ?_
                            · intro i c hi
                              rw [encL_app] at hi
                              exact hi
                            · simp -implicitDefEqProofs only [go_sem, ↓reduceIte, Nat.reduceEqDiff, Nat.reduceLT, Nat.reduceLeDiff, Nat.reduceAdd, Nat.reduceMul, Nat.reduceSub, reduceCtorEq, Nat.reduceMod, Nat.reduceBEq, Int.reduceBEq, Int.reduceBNe, Int.reduceToNat, f3]
                            · simp -implicitDefEqProofs only [go_sem, ↓reduceIte, Nat.reduceEqDiff, Nat.reduceLT, Nat.reduceLeDiff, Nat.reduceAdd, Nat.reduceMul, Nat.reduceSub, reduceCtorEq, Nat.reduceMod, Nat.reduceBEq, Int.reduceBEq, Int.reduceBNe, Int.reduceToNat, f8]
                            · simp -implicitDefEqProofs only [go_sem, ↓reduceIte, Nat.reduceEqDiff, Nat.reduceLT, Nat.reduceLeDiff, Nat.reduceAdd, Nat.reduceMul, Nat.reduceSub, reduceCtorEq, Nat.reduceMod, Nat.reduceBEq, Int.reduceBEq, Int.reduceBNe, Int.reduceToNat, f16]
                            · simp -implicitDefEqProofs only [go_sem, ↓reduceIte, Nat.reduceEqDiff, Nat.reduceLT, Nat.reduceLeDiff, Nat.reduceAdd, Nat.reduceMul, Nat.reduceSub, reduceCtorEq, Nat.reduceMod, Nat.reduceBEq, Int.reduceBEq, Int.reduceBNe, Int.reduceToNat, f17]
                            · simp -implicitDefEqProofs only [go_sem, ↓reduceIte, Nat.reduceEqDiff, Nat.reduceLT, Nat.reduceLeDiff, Nat.reduceAdd, Nat.reduceMul, Nat.reduceSub, reduceCtorEq, Nat.reduceMod, Nat.reduceBEq, Int.reduceBEq, Int.reduceBNe, Int.reduceToNat, f19]
                            · simp -implicitDefEqProofs only [go_sem, ↓reduceIte, Nat.reduceEqDiff, Nat.reduceLT, Nat.reduceLeDiff, Nat.reduceAdd, Nat.reduceMul, Nat.reduceSub, reduceCtorEq, Nat.reduceMod, Nat.reduceBEq, Int.reduceBEq, Int.reduceBNe, Int.reduceToNat, f22]
                            · simp -implicitDefEqProofs only [go_sem, ↓reduceIte, Nat.reduceEqDiff, Nat.reduceLT, Nat.reduceLeDiff, Nat.reduceAdd, Nat.reduceMul, Nat.reduceSub, reduceCtorEq, Nat.reduceMod, Nat.reduceBEq, Int.reduceBEq, Int.reduceBNe, Int.reduceToNat, f115]
                            · simp -implicitDefEqProofs only [go_sem, ↓reduceIte, Nat.reduceEqDiff, Nat.reduceLT, Nat.reduceLeDiff, Nat.reduceAdd, Nat.reduceMul, Nat.reduceSub, reduceCtorEq, Nat.reduceMod, Nat.reduceBEq, Int.reduceBEq, Int.reduceBNe, Int.reduceToNat, f116]
                            · simp -implicitDefEqProofs only [go_sem, ↓reduceIte, Nat.reduceEqDiff, Nat.reduceLT, Nat.reduceLeDiff, Nat.reduceAdd, Nat.reduceMul, Nat.reduceSub, reduceCtorEq, Nat.reduceMod, Nat.reduceBEq, Int.reduceBEq, Int.reduceBNe, Int.reduceToNat]
                            · simp -implicitDefEqProofs only [go_sem, ↓reduceIte, Nat.reduceEqDiff, Nat.reduceLT, Nat.reduceLeDiff, Nat.reduceAdd, Nat.reduceMul, Nat.reduceSub, reduceCtorEq, Nat.reduceMod, Nat.reduceBEq, Int.reduceBEq, Int.reduceBNe, Int.reduceToNat]
                              omega
                          · rw [decide_eq_false c1', if_neg (by simp), List.append_nil] at hst
                            simp -implicitDefEqProofs only [go_sem, ↓reduceIte, Nat.reduceEqDiff, Nat.reduceLT, Nat.reduceLeDiff, Nat.reduceAdd, Nat.reduceMul, Nat.reduceSub, reduceCtorEq, Nat.reduceMod, Nat.reduceBEq, Int.reduceBEq, Int.reduceBNe, Int.reduceToNat, c1', f117, hk21]
                            refine vnext hJ2 hM2 (S'.set id (some [.int .i64 l.i, .int .i64 l.t, .sl .tail 3 (encL F)])) (fun _ _ h => h) ⟨k2 + 1, by rw [hst], hlt2, ?_, ?_, ?_, ?_, ?_, ?_, ?_, ?_, ?_⟩ ?_
                            · simp -implicitDefEqProofs only [go_sem, ↓reduceIte, Nat.reduceEqDiff, Nat.reduceLT, Nat.reduceLeDiff, Nat.reduceAdd, Nat.reduceMul, Nat.reduceSub, reduceCtorEq, Nat.reduceMod, Nat.reduceBEq, Int.reduceBEq, Int.reduceBNe, Int.reduceToNat, f3]
                            · simp -implicitDefEqProofs only [go_sem, ↓reduceIte, Nat.reduceEqDiff, Nat.reduceLT, Nat.reduceLeDiff, Nat.reduceAdd, Nat.reduceMul, Nat.reduceSub, reduceCtorEq, Nat.reduceMod, Nat.reduceBEq, Int.reduceBEq, Int.reduceBNe, Int.reduceToNat, f8]
                            · simp -implicitDefEqProofs only [go_sem, ↓reduceIte, Nat.reduceEqDiff, Nat.reduceLT, Nat.reduceLeDiff, Nat.reduceAdd, Nat.reduceMul, Nat.reduceSub, reduceCtorEq, Nat.reduceMod, Nat.reduceBEq, Int.reduceBEq, Int.reduceBNe, Int.reduceToNat, f16]
                            · simp -implicitDefEqProofs only [go_sem, ↓reduceIte, Nat.reduceEqDiff, Nat.reduceLT, Nat.reduceLeDiff, Nat.reduceAdd, Nat.reduceMul, Nat.reduceSub, reduceCtorEq, Nat.reduceMod, Nat.reduceBEq, Int.reduceBEq, Int.reduceBNe, Int.reduceToNat, f17]
                            · simp -implicitDefEqProofs only [go_sem, ↓reduceIte, Nat.reduceEqDiff, Nat.reduceLT, Nat.reduceLeDiff, Nat.reduceAdd, Nat.reduceMul, Nat.reduceSub, reduceCtorEq, Nat.reduceMod, Nat.reduceBEq, Int.reduceBEq, Int.reduceBNe, Int.reduceToNat, f19]
                            · simp -implicitDefEqProofs only [go_sem, ↓reduceIte, Nat.reduceEqDiff, Nat.reduceLT, Nat.reduceLeDiff, Nat.reduceAdd, Nat.reduceMul, Nat.reduceSub, reduceCtorEq, Nat.reduceMod, Nat.reduceBEq, Int.reduceBEq, Int.reduceBNe, Int.reduceToNat, f22]
                            · simp -implicitDefEqProofs only [go_sem, ↓reduceIte, Nat.reduceEqDiff, Nat.reduceLT, Nat.reduceLeDiff, Nat.reduceAdd, Nat.reduceMul, Nat.reduceSub, reduceCtorEq, Nat.reduceMod, Nat.reduceBEq, Int.reduceBEq, Int.reduceBNe, Int.reduceToNat, f115]
                            · simp -implicitDefEqProofs only [go_sem, ↓reduceIte, Nat.reduceEqDiff, Nat.reduceLT, Nat.reduceLeDiff, Nat.reduceAdd, Nat.reduceMul, Nat.reduceSub, reduceCtorEq, Nat.reduceMod, Nat.reduceBEq, Int.reduceBEq, Int.reduceBNe, Int.reduceToNat, f116]
                            · simp -implicitDefEqProofs only [go_sem, ↓reduceIte, Nat.reduceEqDiff, Nat.reduceLT, Nat.reduceLeDiff, Nat.reduceAdd, Nat.reduceMul, Nat.reduceSub, reduceCtorEq, Nat.reduceMod, Nat.reduceBEq, Int.reduceBEq, Int.reduceBNe, Int.reduceToNat]
                            · simp -implicitDefEqProofs only [go_sem, ↓reduceIte, Nat.reduceEqDiff, Nat.reduceLT, Nat.reduceLeDiff, Nat.reduceAdd, Nat.reduceMul, Nat.reduceSub, reduceCtorEq, Nat.reduceMod, Nat.reduceBEq, Int.reduceBEq, Int.reduceBNe, Int.reduceToNat]
                              omega
                        · have hcc : ¬ (k2 : Int) < l.rows.length := by omega
                          simp -implicitDefEqProofs only [go_sem, ↓reduceIte, Nat.reduceEqDiff, Nat.reduceLT, Nat.reduceLeDiff, Nat.reduceAdd, Nat.reduceMul, Nat.reduceSub, reduceCtorEq, Nat.reduceMod, Nat.reduceBEq, Int.reduceBEq, Int.reduceBNe, Int.reduceToNat, hcc]
                          refine hQ2 _ _ _ ?_
                          rw [show l.rows.take k2 = l.rows from List.take_of_length_le (by omega), hsm]
                          have hpl : (l.rows.take (y.i - l.i - 1).toNat).length ≤ 100000 := by rw [List.length_take]; omega
                          generalize hP : l.rows.take (y.i - l.i - 1).toNat = P at hjf hpl ⊢
                          have htk : List.take (more.length - k) (List.drop k more) = more.drop k := List.take_of_length_le (by simp)
                          have hcut : 0 ≤ (k : Int) ∧ (k : Int) ≤ more.length ∧ (more.length : Int) ≤ more.length := by omega
                          have hap : (P.length + (more.length - k)) * 40 ≤ 140737488355328 ∧ P.length + (more.length - k) ≤ 140737488355328 := by omega
                          simp -implicitDefEqProofs only [go_sem, ↓reduceIte, Nat.reduceEqDiff, Nat.reduceLT, Nat.reduceLeDiff, Nat.reduceAdd, Nat.reduceMul, Nat.reduceSub, reduceCtorEq, Nat.reduceMod, Nat.reduceBEq, Int.reduceBEq, Int.reduceBNe, Int.reduceToNat]
                          refine mid_wp (fun e2 S3 => S3 = S'.set id (some [.int .i64 l.i, .int .i64 l.t, .sl .tail 3 (encL (P ++ more.drop k))]) ∧ e2 3 = .sl .no 3 (encL more) ∧ e2 8 = .fresh 3 ∧ e2 16 = .int .i64 k ∧ e2 17 = .ip [.int .i64 y.i, .int .i64 y.t, .sl .no 1 (encD y.d)] 0 ∧ e2 19 = .bool (atF l y.i).2 ∧ e2 22 = .ref id 0) ?_ ?_
                          · rintro e2 S3 ⟨rfl, g3, g8, g16, g17, g19, g22⟩
                            rw [b2] at g19
                            simp -implicitDefEqProofs only [go_sem, ↓reduceIte, Nat.reduceEqDiff, Nat.reduceLT, Nat.reduceLeDiff, Nat.reduceAdd, Nat.reduceMul, Nat.reduceSub, reduceCtorEq, Nat.reduceMod, Nat.reduceBEq, Int.reduceBEq, Int.reduceBNe, Int.reduceToNat, g19, g17]
                            refine vwp_draw (by decide +kernel) ?_
                            simp -implicitDefEqProofs only [go_sem, ↓reduceIte, Nat.reduceEqDiff, Nat.reduceLT, Nat.reduceLeDiff, Nat.reduceAdd, Nat.reduceMul, Nat.reduceSub, reduceCtorEq, Nat.reduceMod, Nat.reduceBEq, Int.reduceBEq, Int.reduceBNe, Int.reduceToNat, g3, g8, g16, g22, hcut, htk]
                            refine hQ _ _ _ ?_
                            simp -implicitDefEqProofs only [go_sem, ↓reduceIte, Nat.reduceEqDiff, Nat.reduceLT, Nat.reduceLeDiff, Nat.reduceAdd, Nat.reduceMul, Nat.reduceSub, reduceCtorEq, Nat.reduceMod, Nat.reduceBEq, Int.reduceBEq, Int.reduceBNe, Int.reduceToNat]
                            rw [hjf, b2] at hK
                            exact ⟨S', set_drop hid (fun _ _ h => h), hK⟩
                          · intro W' hW
                            refine vwp_tree (t := (.alt (.one 0 (.alt (.one 1 (.alt (.one 2 (.one 3 (.one 4 (.one 5 (.one 6 (.one 7 .done)))))) (.one 3 (.one 2 (.one 4 (.one 5 (.one 6 (.one 7 .done)))))))) (.alt (.one 2 (.alt (.one 1 (.one 3 (.one 4 (.one 5 (.one 6 (.one 7 .done)))))) (.one 3 (.alt (.one 1 (.one 4 (.one 5 (.one 6 (.one 7 .done))))) (.one 4 (.one 1 (.one 5 (.one 6 (.one 7 .done))))))))) (.one 3 (.alt (.one 1 (.one 2 (.one 4 (.one 5 (.one 6 (.one 7 .done)))))) (.one 2 (.alt (.one 1 (.one 4 (.one 5 (.one 6 (.one 7 .done))))) (.one 4 (.one 1 (.one 5 (.one 6 (.one 7 .done)))))))))))) (.alt (.one 2 (.alt (.one 0 (.alt (.one 1 (.one 3 (.one 4 (.one 5 (.one 6 (.one 7 .done)))))) (.one 3 (.alt (.one 1 (.one 4 (.one 5 (.one 6 (.one 7 .done))))) (.one 4 (.one 1 (.one 5 (.one 6 (.one 7 .done))))))))) (.one 3 (.alt (.one 0 (.alt (.one 1 (.one 4 (.one 5 (.one 6 (.one 7 .done))))) (.one 4 (.one 1 (.one 5 (.one 6 (.one 7 .done))))))) (.one 4 (.one 0 (.one 1 (.one 5 (.one 6 (.one 7 .done)))))))))) (.one 3 (.alt (.one 0 (.alt (.one 1 (.one 2 (.one 4 (.one 5 (.one 6 (.one 7 .done)))))) (.one 2 (.alt (.one 1 (.one 4 (.one 5 (.one 6 (.one 7 .done))))) (.one 4 (.one 1 (.one 5 (.one 6 (.one 7 .done))))))))) (.one 2 (.alt (.one 0 (.alt (.one 1 (.one 4 (.one 5 (.one 6 (.one 7 .done))))) (.one 4 (.one 1 (.one 5 (.one 6 (.one 7 .done))))))) (.one 4 (.one 0 (.one 1 (.one 5 (.one 6 (.one 7 .done))))))))))))) (by decide +kernel) ?_
                            simp -implicitDefEqProofs only [go_sem, ↓reduceIte, Nat.reduceEqDiff, Nat.reduceLT, Nat.reduceLeDiff, Nat.reduceAdd, Nat.reduceMul, Nat.reduceSub, reduceCtorEq, Nat.reduceMod, Nat.reduceBEq, Int.reduceBEq, Int.reduceBNe, Int.reduceToNat, f3, f16, f22, hcut, htk, hap, List.length_drop]
                            have go : ∀ e2 : Env, e2 3 = .sl .no 3 (encL more) → e2 8 = .fresh 3 → e2 16 = .int .i64 k → e2 17 = .ip [.int .i64 y.i, .int .i64 y.t, .sl .no 1 (encD y.d)] 0 → e2 19 = .bool (atF l y.i).2 → e2 22 = .ref id 0 → W' e2 (S'.set id (some [.int .i64 l.i, .int .i64 l.t, .sl .tail 3 (encL P ++ encL (more.drop k))])) := by
                              intro e2 g3 g8 g16 g17 g19 g22
                              rw [← encL_app]
                              exact hW _ _ ⟨rfl, g3, g8, g16, g17, g19, g22⟩
                            repeat' (first | (refine go _ ?_ ?_ ?_ ?_ ?_ ?_ <;> simp -implicitDefEqProofs only [go_sem, ↓reduceIte, Nat.reduceEqDiff, Nat.reduceLT, Nat.reduceLeDiff, Nat.reduceAdd, Nat.reduceMul, Nat.reduceSub, reduceCtorEq, Nat.reduceMod, Nat.reduceBEq, Int.reduceBEq, Int.reduceBNe, Int.reduceToNat, f3, f8, f16, f17, f19, f22]) | refine And.intro ?_ ?_)
                  · have b3' : (atF l y.i).1 = y.t := by simpa using b3
                    simp -implicitDefEqProofs only [go_sem, ↓reduceIte, Nat.reduceEqDiff, Nat.reduceLT, Nat.reduceLeDiff, Nat.reduceAdd, Nat.reduceMul, Nat.reduceSub, reduceCtorEq, Nat.reduceMod, Nat.reduceBEq, Int.reduceBEq, Int.reduceBNe, Int.reduceToNat, b2, b3, h70, hk1]
                    refine next (.inr ⟨b2, b3'⟩) _ ?_ ?_ ?_ ?_ ?_ ?_ <;> simp -implicitDefEqProofs only [go_sem, ↓reduceIte, Nat.reduceEqDiff, Nat.reduceLT, Nat.reduceLeDiff, Nat.reduceAdd, Nat.reduceMul, Nat.reduceSub, reduceCtorEq, Nat.reduceMod, Nat.reduceBEq, Int.reduceBEq, Int.reduceBNe, Int.reduceToNat, h68, h69, h4, h8, h3]
            · have hc : ¬ (k : Int) < more.length := by omega
              simp -implicitDefEqProofs only [go_sem, ↓reduceIte, Nat.reduceEqDiff, Nat.reduceLT, Nat.reduceLeDiff, Nat.reduceAdd, Nat.reduceMul, Nat.reduceSub, reduceCtorEq, Nat.reduceMod, Nat.reduceBEq, Int.reduceBEq, Int.reduceBNe, Int.reduceToNat, hc]
              refine hQ _ _ _ ?_
              simp -implicitDefEqProofs only [go_sem, ↓reduceIte, Nat.reduceEqDiff, Nat.reduceLT, Nat.reduceLeDiff, Nat.reduceAdd, Nat.reduceMul, Nat.reduceSub, reduceCtorEq, Nat.reduceMod, Nat.reduceBEq, Int.reduceBEq, Int.reduceBNe, Int.reduceToNat, h4, h8]
              rw [List.drop_of_length_le (by omega)] at hj
              have hjf : joinF l x t more = ⟨l, 0, [], true⟩ := by
                unfold joinF; rw [h, hmt]; simp only [if_true]; rw [hj]; rfl
              rw [hjf] at hK
              exact ⟨S', fun _ _ h => h, hK⟩
end Go.Proofs.Ytjdfajibflodbaa.V
