/- Rows: what entries bring. -/
import Derived.Test.YtjdfajibflodbaaRH
set_option linter.unusedVariables false
set_option linter.unusedSimpArgs false
namespace Go.Proofs.Ytjdfajibflodbaa.V
open Go Go.VL

structure Jn where
  out : Lg
  cut : Int
  fresh : List Ent
  ok : Bool
  deriving DecidableEq

def joinGo (l : Lg) : List Ent → Jn
  | [] => ⟨l, 0, [], true⟩
  | e :: rest =>
    if e.i ≤ l.i ∨ ((atF l e.i).2 = true ∧ (atF l e.i).1 = e.t) then joinGo l rest
    else if e.t < (atF l (e.i - 1)).1 then ⟨l, 0, [], false⟩
    else ⟨⟨l.i, l.t, l.rows.take (e.i - l.i - 1).toNat ++ (e :: rest)⟩, if (atF l e.i).2 then e.i else 0, e :: rest, true⟩

def meets (l : Lg) (x t : Int) (more : List Ent) : Bool :=
  within t 0 && rise x t more && decide (x ≤ (lastF l.i l.t l.rows).1) && (decide (x < l.i) || ((atF l x).2 && ((atF l x).1 == t)))

def joinF (l : Lg) (x t : Int) (more : List Ent) : Jn :=
  if chk l then (if meets l x t more then joinGo l more else ⟨l, 0, [], false⟩) else ⟨⟨0, 0, []⟩, 0, [], false⟩

def encJ (j : Jn) : PV := .tup [encG j.out, .int .i64 j.cut, .sl .no 3 (encL j.fresh), .bool j.ok]

theorem rise_d : ∀ (l : List Ent) (i t : Int), rise i t l = true → ∀ e ∈ l, e.d.length ≤ 8192 := by
  intro l i t h e he
  obtain ⟨k, hk⟩ := List.mem_iff_getElem?.1 he
  exact (rise_get l i t h k e hk).2.2.2.2.2

theorem at_le {l : Lg} (h : chk l = true) {x : Int} (hs : (atF l x).2 = true) : x ≤ (lastF l.i l.t l.rows).1 := by
  obtain ⟨c1, c2, c3, c4, hr⟩ := chk_iff h
  rw [lastF_i _ _ _ hr]
  unfold atF at hs
  split at hs
  · omega
  · split at hs
    · cases hs
    · split at hs
      · rename_i e he
        have := (List.getElem?_eq_some_iff.1 he).1
        omega
      · cases hs

theorem Join_spec (l : Lg) (x t : Int) (more : List Ent) (hx : InR x) (hl : l.rows.length ≤ 100000) (hm : more.length ≤ 100000) (S : Store) :
    PRet Try.prog 18 [encG l, .int .i64 x, .int .i64 t, .sl .no 3 (encL more)] S (encJ (joinF l x t more)) := by
  intro K hK
  refine pcalls_of (C := C) (fun _ => false) (fun d => d == 4) Try.func18 rfl rfl (by simp [Try.f18]) ?_
  have hf : Fit l := by unfold Fit; omega
  simp -implicitDefEqProofs only [go_sem, ↓reduceIte, Nat.reduceEqDiff, Nat.reduceLT, Nat.reduceLeDiff, Nat.reduceAdd, Nat.reduceMul, Nat.reduceSub, reduceCtorEq, Nat.reduceMod, Nat.reduceBEq, Int.reduceBEq, Int.reduceBNe, Int.reduceToNat, Try.f18, encG]
  intro id hid
  refine check_spec l hf _ _ ?_
  unfold joinF at hK
  cases h : chk l
  · rw [h] at hK
    simp -implicitDefEqProofs only [go_sem, ↓reduceIte, Nat.reduceEqDiff, Nat.reduceLT, Nat.reduceLeDiff, Nat.reduceAdd, Nat.reduceMul, Nat.reduceSub, reduceCtorEq, Nat.reduceMod, Nat.reduceBEq, Int.reduceBEq, Int.reduceBNe, Int.reduceToNat, chkN_f]
    exact ⟨S, set_drop hid (fun _ _ h => h), hK⟩
  · rw [h] at hK
    obtain ⟨c1, c2, c3, c4, hr⟩ := chk_iff h
    have hb := lastF_le h
    simp -implicitDefEqProofs only [go_sem, ↓reduceIte, Nat.reduceEqDiff, Nat.reduceLT, Nat.reduceLeDiff, Nat.reduceAdd, Nat.reduceMul, Nat.reduceSub, reduceCtorEq, Nat.reduceMod, Nat.reduceBEq, Int.reduceBEq, Int.reduceBNe, Int.reduceToNat, chkN_t]
    refine own_spec l.rows (by omega) (rise_d _ _ _ hr) _ _ ?_
    simp -implicitDefEqProofs only [go_sem, ↓reduceIte, Nat.reduceEqDiff, Nat.reduceLT, Nat.reduceLeDiff, Nat.reduceAdd, Nat.reduceMul, Nat.reduceSub, reduceCtorEq, Nat.reduceMod, Nat.reduceBEq, Int.reduceBEq, Int.reduceBNe, Int.reduceToNat]
    refine last_spec l hf _ _ ?_
    simp -implicitDefEqProofs only [go_sem, ↓reduceIte, Nat.reduceEqDiff, Nat.reduceLT, Nat.reduceLeDiff, Nat.reduceAdd, Nat.reduceMul, Nat.reduceSub, reduceCtorEq, Nat.reduceMod, Nat.reduceBEq, Int.reduceBEq, Int.reduceBNe, Int.reduceToNat]
    refine at_spec l x hx.1 hx.2 hf h _ _ ?_
    simp -implicitDefEqProofs only [go_sem, ↓reduceIte, Nat.reduceEqDiff, Nat.reduceLT, Nat.reduceLeDiff, Nat.reduceAdd, Nat.reduceMul, Nat.reduceSub, reduceCtorEq, Nat.reduceMod, Nat.reduceBEq, Int.reduceBEq, Int.reduceBNe, Int.reduceToNat]
    refine within_spec _ _ _ _ ?_
    simp only [if_true] at hK
    have bad : meets l x t more = false → ∃ S', (∀ (i : Nat) (c : List PV), S' i = some c → S.set id (some [.int .i64 l.i, .int .i64 l.t, .sl .no 3 (encL l.rows)]) i = some c) ∧ K (encJ ⟨l, 0, [], false⟩) S' := by
      intro hmt
      rw [hmt] at hK
      exact ⟨S, set_drop hid (fun _ _ h => h), hK⟩
    cases a1 : within t 0
    · simp -implicitDefEqProofs only [go_sem, ↓reduceIte, Nat.reduceEqDiff, Nat.reduceLT, Nat.reduceLeDiff, Nat.reduceAdd, Nat.reduceMul, Nat.reduceSub, reduceCtorEq, Nat.reduceMod, Nat.reduceBEq, Int.reduceBEq, Int.reduceBNe, Int.reduceToNat, a1]
      exact bad (by simp [meets, a1])
    · simp -implicitDefEqProofs only [go_sem, ↓reduceIte, Nat.reduceEqDiff, Nat.reduceLT, Nat.reduceLeDiff, Nat.reduceAdd, Nat.reduceMul, Nat.reduceSub, reduceCtorEq, Nat.reduceMod, Nat.reduceBEq, Int.reduceBEq, Int.reduceBNe, Int.reduceToNat, a1]
      refine rise_spec x t more (by omega) _ _ ?_
      cases a2 : rise x t more
      · simp -implicitDefEqProofs only [go_sem, ↓reduceIte, Nat.reduceEqDiff, Nat.reduceLT, Nat.reduceLeDiff, Nat.reduceAdd, Nat.reduceMul, Nat.reduceSub, reduceCtorEq, Nat.reduceMod, Nat.reduceBEq, Int.reduceBEq, Int.reduceBNe, Int.reduceToNat, a2]
        exact bad (by simp [meets, a2])
      · simp -implicitDefEqProofs only [go_sem, ↓reduceIte, Nat.reduceEqDiff, Nat.reduceLT, Nat.reduceLeDiff, Nat.reduceAdd, Nat.reduceMul, Nat.reduceSub, reduceCtorEq, Nat.reduceMod, Nat.reduceBEq, Int.reduceBEq, Int.reduceBNe, Int.reduceToNat, a2]
        by_cases a3 : (lastF l.i l.t l.rows).1 < x
        · simp -implicitDefEqProofs only [go_sem, ↓reduceIte, Nat.reduceEqDiff, Nat.reduceLT, Nat.reduceLeDiff, Nat.reduceAdd, Nat.reduceMul, Nat.reduceSub, reduceCtorEq, Nat.reduceMod, Nat.reduceBEq, Int.reduceBEq, Int.reduceBNe, Int.reduceToNat, a3]
          exact bad (by simp [meets]; omega)
        · simp -implicitDefEqProofs only [go_sem, ↓reduceIte, Nat.reduceEqDiff, Nat.reduceLT, Nat.reduceLeDiff, Nat.reduceAdd, Nat.reduceMul, Nat.reduceSub, reduceCtorEq, Nat.reduceMod, Nat.reduceBEq, Int.reduceBEq, Int.reduceBNe, Int.reduceToNat, a3]
          by_cases a4 : l.i ≤ x
          · simp -implicitDefEqProofs only [go_sem, ↓reduceIte, Nat.reduceEqDiff, Nat.reduceLT, Nat.reduceLeDiff, Nat.reduceAdd, Nat.reduceMul, Nat.reduceSub, reduceCtorEq, Nat.reduceMod, Nat.reduceBEq, Int.reduceBEq, Int.reduceBNe, Int.reduceToNat, a4]
            cases a5 : (atF l x).2
            · simp -implicitDefEqProofs only [go_sem, ↓reduceIte, Nat.reduceEqDiff, Nat.reduceLT, Nat.reduceLeDiff, Nat.reduceAdd, Nat.reduceMul, Nat.reduceSub, reduceCtorEq, Nat.reduceMod, Nat.reduceBEq, Int.reduceBEq, Int.reduceBNe, Int.reduceToNat, a5]
              exact bad (by simp [meets, a5]; omega)
            · simp -implicitDefEqProofs only [go_sem, ↓reduceIte, Nat.reduceEqDiff, Nat.reduceLT, Nat.reduceLeDiff, Nat.reduceAdd, Nat.reduceMul, Nat.reduceSub, reduceCtorEq, Nat.reduceMod, Nat.reduceBEq, Int.reduceBEq, Int.reduceBNe, Int.reduceToNat, a5]
              cases a6 : (atF l x).1 != t
              · simp -implicitDefEqProofs only [go_sem, ↓reduceIte, Nat.reduceEqDiff, Nat.reduceLT, Nat.reduceLeDiff, Nat.reduceAdd, Nat.reduceMul, Nat.reduceSub, reduceCtorEq, Nat.reduceMod, Nat.reduceBEq, Int.reduceBEq, Int.reduceBNe, Int.reduceToNat, a6]
                have hmt : meets l x t more = true := by
                  simp only [bne_eq_false_iff_eq] at a6
                  simp [meets, a1, a2, a5, a6]
                  omega
                refine vwp_loop (fun e S' => S' = S.set id (some [.int .i64 l.i, .int .i64 l.t, .sl .no 3 (encL l.rows)]) ∧ ∃ k : Nat, k ≤ more.length ∧ x + k ≤ (lastF l.i l.t l.rows).1 ∧ e 72 = .sl .no 3 (encL more) ∧ e 73 = .int .i64 more.length ∧ e 74 = .int .i64 k ∧ e 4 = .ref id 0 ∧ e 8 = .fresh 3 ∧ e 3 = .sl .no 3 (encL more) ∧ e 9 = .int .i64 0 ∧ joinGo l more = joinGo l (more.drop k)) (fun e _ => match e 74 with | .int _ k => more.length - k.toNat | _ => 0) ?_ ?_
                · exact ⟨rfl, 0, Nat.zero_le _, by omega, rfl, rfl, rfl, rfl, rfl, rfl, rfl, rfl⟩
                · rintro e S' ⟨rfl, k, hk, hxk, h72, h73, h74, h4, h8, h3, h9, hj⟩
                  simp -implicitDefEqProofs only [go_sem, ↓reduceIte, Nat.reduceEqDiff, Nat.reduceLT, Nat.reduceLeDiff, Nat.reduceAdd, Nat.reduceMul, Nat.reduceSub, reduceCtorEq, Nat.reduceMod, Nat.reduceBEq, Int.reduceBEq, Int.reduceBNe, Int.reduceToNat, h72, h73, h74]
                  by_cases hlt : k < more.length
                  · obtain ⟨y, hy⟩ : ∃ y, more[k]? = some y := ⟨_, List.getElem?_eq_getElem hlt⟩
                    have hdy : more.drop k = y :: more.drop (k + 1) := by
                      rw [List.drop_eq_getElem_cons hlt]
                      rw [List.getElem?_eq_getElem hlt] at hy
                      injection hy with hy
                      rw [hy]
                    rw [hdy] at hj
                    obtain ⟨y1, y2, y3, y4, y5, y6⟩ := rise_get more x t a2 k y hy
                    have y7 := within_iff.1 y2
                    have y8 := within_iff.1 y3
                    have hin : (0 : Int) ≤ k ∧ (k : Int) < more.length := by omega
                    have hk1 : IntKind.i64.wrap ((k : Int) + 1) = ((k + 1 : Nat) : Int) := wrap64 (by omega) (by omega)
                    simp -implicitDefEqProofs only [go_sem, ↓reduceIte, Nat.reduceEqDiff, Nat.reduceLT, Nat.reduceLeDiff, Nat.reduceAdd, Nat.reduceMul, Nat.reduceSub, reduceCtorEq, Nat.reduceMod, Nat.reduceBEq, Int.reduceBEq, Int.reduceBNe, Int.reduceToNat, hin, h72, h73, h74, h4, getD_encL hy, encE]
                    refine at_spec l y.i (by omega) (by omega) hf h _ _ ?_
                    simp -implicitDefEqProofs only [go_sem, ↓reduceIte, Nat.reduceEqDiff, Nat.reduceLT, Nat.reduceLeDiff, Nat.reduceAdd, Nat.reduceMul, Nat.reduceSub, reduceCtorEq, Nat.reduceMod, Nat.reduceBEq, Int.reduceBEq, Int.reduceBNe, Int.reduceToNat, h4]
                    have skip : (y.i ≤ l.i ∨ ((atF l y.i).2 = true ∧ (atF l y.i).1 = y.t)) → x + ((k + 1 : Nat) : Int) ≤ (lastF l.i l.t l.rows).1 ∧ joinGo l more = joinGo l (more.drop (k + 1)) := by
                      intro hs
                      refine ⟨?_, by rw [hj, joinGo, if_pos hs]⟩
                      rcases hs with hs | hs
                      · omega
                      · have := at_le h hs.1
                        omega
                    by_cases b1 : y.i ≤ l.i
                    · simp -implicitDefEqProofs only [go_sem, ↓reduceIte, Nat.reduceEqDiff, Nat.reduceLT, Nat.reduceLeDiff, Nat.reduceAdd, Nat.reduceMul, Nat.reduceSub, reduceCtorEq, Nat.reduceMod, Nat.reduceBEq, Int.reduceBEq, Int.reduceBNe, Int.reduceToNat, b1, h74, hk1]
                      obtain ⟨s1, s2⟩ := skip (.inl b1)
                      refine ⟨_, fun _ _ h => h, ⟨rfl, k + 1, hlt, s1, ?_, ?_, ?_, ?_, ?_, ?_, ?_, s2⟩, ?_⟩
                      · simp -implicitDefEqProofs only [go_sem, ↓reduceIte, Nat.reduceEqDiff, Nat.reduceLT, Nat.reduceLeDiff, Nat.reduceAdd, Nat.reduceMul, Nat.reduceSub, reduceCtorEq, Nat.reduceMod, Nat.reduceBEq, Int.reduceBEq, Int.reduceBNe, Int.reduceToNat, h72]
                      · simp -implicitDefEqProofs only [go_sem, ↓reduceIte, Nat.reduceEqDiff, Nat.reduceLT, Nat.reduceLeDiff, Nat.reduceAdd, Nat.reduceMul, Nat.reduceSub, reduceCtorEq, Nat.reduceMod, Nat.reduceBEq, Int.reduceBEq, Int.reduceBNe, Int.reduceToNat, h73]
                      · simp -implicitDefEqProofs only [go_sem, ↓reduceIte, Nat.reduceEqDiff, Nat.reduceLT, Nat.reduceLeDiff, Nat.reduceAdd, Nat.reduceMul, Nat.reduceSub, reduceCtorEq, Nat.reduceMod, Nat.reduceBEq, Int.reduceBEq, Int.reduceBNe, Int.reduceToNat]
                      · simp -implicitDefEqProofs only [go_sem, ↓reduceIte, Nat.reduceEqDiff, Nat.reduceLT, Nat.reduceLeDiff, Nat.reduceAdd, Nat.reduceMul, Nat.reduceSub, reduceCtorEq, Nat.reduceMod, Nat.reduceBEq, Int.reduceBEq, Int.reduceBNe, Int.reduceToNat, h4]
                      · simp -implicitDefEqProofs only [go_sem, ↓reduceIte, Nat.reduceEqDiff, Nat.reduceLT, Nat.reduceLeDiff, Nat.reduceAdd, Nat.reduceMul, Nat.reduceSub, reduceCtorEq, Nat.reduceMod, Nat.reduceBEq, Int.reduceBEq, Int.reduceBNe, Int.reduceToNat, h8]
                      · simp -implicitDefEqProofs only [go_sem, ↓reduceIte, Nat.reduceEqDiff, Nat.reduceLT, Nat.reduceLeDiff, Nat.reduceAdd, Nat.reduceMul, Nat.reduceSub, reduceCtorEq, Nat.reduceMod, Nat.reduceBEq, Int.reduceBEq, Int.reduceBNe, Int.reduceToNat, h3]
                      · simp -implicitDefEqProofs only [go_sem, ↓reduceIte, Nat.reduceEqDiff, Nat.reduceLT, Nat.reduceLeDiff, Nat.reduceAdd, Nat.reduceMul, Nat.reduceSub, reduceCtorEq, Nat.reduceMod, Nat.reduceBEq, Int.reduceBEq, Int.reduceBNe, Int.reduceToNat, h9]
                      · simp -implicitDefEqProofs only [go_sem, ↓reduceIte, Nat.reduceEqDiff, Nat.reduceLT, Nat.reduceLeDiff, Nat.reduceAdd, Nat.reduceMul, Nat.reduceSub, reduceCtorEq, Nat.reduceMod, Nat.reduceBEq, Int.reduceBEq, Int.reduceBNe, Int.reduceToNat]
                        omega
                    · have b1' : ¬ y.i ≤ l.i := b1
                      simp -implicitDefEqProofs only [go_sem, ↓reduceIte, Nat.reduceEqDiff, Nat.reduceLT, Nat.reduceLeDiff, Nat.reduceAdd, Nat.reduceMul, Nat.reduceSub, reduceCtorEq, Nat.reduceMod, Nat.reduceBEq, Int.reduceBEq, Int.reduceBNe, Int.reduceToNat, b1']
                      cases b2 : (atF l y.i).2
                      · have hs : ¬ (y.i ≤ l.i ∨ ((atF l y.i).2 = true ∧ (atF l y.i).1 = y.t)) := by
                          rw [b2]; simp; omega
                        simp -implicitDefEqProofs only [go_sem, ↓reduceIte, Nat.reduceEqDiff, Nat.reduceLT, Nat.reduceLeDiff, Nat.reduceAdd, Nat.reduceMul, Nat.reduceSub, reduceCtorEq, Nat.reduceMod, Nat.reduceBEq, Int.reduceBEq, Int.reduceBNe, Int.reduceToNat, b2]
                        have hb1 : IntKind.i64.wrap (y.i - 1) = y.i - 1 := wrap64 (by omega) (by omega)
                        simp -implicitDefEqProofs only [go_sem, ↓reduceIte, Nat.reduceEqDiff, Nat.reduceLT, Nat.reduceLeDiff, Nat.reduceAdd, Nat.reduceMul, Nat.reduceSub, reduceCtorEq, Nat.reduceMod, Nat.reduceBEq, Int.reduceBEq, Int.reduceBNe, Int.reduceToNat, h4, hb1]
                        refine at_spec l (y.i - 1) (by omega) (by omega) hf h _ _ ?_
                        simp -implicitDefEqProofs only [go_sem, ↓reduceIte, Nat.reduceEqDiff, Nat.reduceLT, Nat.reduceLeDiff, Nat.reduceAdd, Nat.reduceMul, Nat.reduceSub, reduceCtorEq, Nat.reduceMod, Nat.reduceBEq, Int.reduceBEq, Int.reduceBNe, Int.reduceToNat]
                        by_cases b4 : y.t < (atF l (y.i - 1)).1
                        · simp -implicitDefEqProofs only [go_sem, ↓reduceIte, Nat.reduceEqDiff, Nat.reduceLT, Nat.reduceLeDiff, Nat.reduceAdd, Nat.reduceMul, Nat.reduceSub, reduceCtorEq, Nat.reduceMod, Nat.reduceBEq, Int.reduceBEq, Int.reduceBNe, Int.reduceToNat, b4, h4, h8]
                          rw [hmt] at hK
                          simp only [if_true] at hK
                          rw [hj, joinGo, if_neg hs, if_pos b4] at hK
                          exact ⟨S, set_drop hid (fun _ _ h => h), hK⟩
                        · simp -implicitDefEqProofs only [go_sem, ↓reduceIte, Nat.reduceEqDiff, Nat.reduceLT, Nat.reduceLeDiff, Nat.reduceAdd, Nat.reduceMul, Nat.reduceSub, reduceCtorEq, Nat.reduceMod, Nat.reduceBEq, Int.reduceBEq, Int.reduceBNe, Int.reduceToNat, b4, h3]
                          have htk : List.take (more.length - k) (List.drop k more) = more.drop k := List.take_of_length_le (by simp)
                          rw [htk]
                          refine ⟨by omega, own_spec (more.drop k) (by simp; omega) (fun e he => rise_d more x t a2 e (List.mem_of_mem_drop he)) _ _ ?_⟩
                          have hw1 : IntKind.i64.wrap (y.i - l.i) = y.i - l.i := wrap64 (by omega) (by omega)
                          have hw2 : IntKind.i64.wrap (y.i - l.i - 1) = y.i - l.i - 1 := wrap64 (by omega) (by omega)
                          rw [lastF_i _ _ _ hr] at hxk
                          have hz : (0 : Int) ≤ 0 ∧ 0 ≤ y.i - l.i - 1 ∧ y.i - l.i - 1 ≤ l.rows.length := by omega
                          simp -implicitDefEqProofs only [go_sem, ↓reduceIte, Nat.reduceEqDiff, Nat.reduceLT, Nat.reduceLeDiff, Nat.reduceAdd, Nat.reduceMul, Nat.reduceSub, reduceCtorEq, Nat.reduceMod, Nat.reduceBEq, Int.reduceBEq, Int.reduceBNe, Int.reduceToNat, b2, h4, hw1, hw2, hz]
                          have hfl : [l.rows.take (y.i - l.i - 1).toNat, more.drop k].flatten = l.rows.take (y.i - l.i - 1).toNat ++ more.drop k := by simp
                          refine concat_spec [l.rows.take (y.i - l.i - 1).toNat, more.drop k] (by simp) (by simp [lens]; omega) _ _ ?_
                          have fin : ∃ S', (∀ (i : Nat) (c : List PV), S' i = some c → S.set id (some [.int .i64 l.i, .int .i64 l.t, .sl .no 3 (encL (l.rows.take (y.i - l.i - 1).toNat ++ more.drop k))]) i = some c) ∧ K (encJ ⟨⟨l.i, l.t, l.rows.take (y.i - l.i - 1).toNat ++ more.drop k⟩, if (atF l y.i).2 then y.i else 0, more.drop k, true⟩) S' := by
                            rw [hmt] at hK
                            simp only [if_true] at hK
                            rw [hj, joinGo, if_neg hs, if_neg b4, ← hdy] at hK
                            exact ⟨S, set_drop hid (fun _ _ h => h), hK⟩
                          rw [b2] at fin
                          simp only [if_true, Bool.false_eq_true, if_false] at fin
                          rw [hfl]
                          simp -implicitDefEqProofs only [go_sem, ↓reduceIte, Nat.reduceEqDiff, Nat.reduceLT, Nat.reduceLeDiff, Nat.reduceAdd, Nat.reduceMul, Nat.reduceSub, reduceCtorEq, Nat.reduceMod, Nat.reduceBEq, Int.reduceBEq, Int.reduceBNe, Int.reduceToNat, h4]
                          refine vwp_tree (t := (.alt (.one 0 (.alt (.one 1 (.one 2 (.one 3 (.one 4 (.one 5 (.one 6 (.one 7 .done))))))) (.one 2 (.alt (.one 1 (.one 3 (.one 4 (.one 5 (.one 6 (.one 7 .done)))))) (.one 3 (.alt (.one 1 (.one 4 (.one 5 (.one 6 (.one 7 .done))))) (.one 4 (.one 1 (.one 5 (.one 6 (.one 7 .done))))))))))) (.alt (.one 1 (.alt (.one 0 (.one 2 (.one 3 (.one 4 (.one 5 (.one 6 (.one 7 .done))))))) (.one 2 (.alt (.one 0 (.one 3 (.one 4 (.one 5 (.one 6 (.one 7 .done)))))) (.one 3 (.one 0 (.one 4 (.one 5 (.one 6 (.one 7 .done)))))))))) (.one 2 (.alt (.one 0 (.alt (.one 1 (.one 3 (.one 4 (.one 5 (.one 6 (.one 7 .done)))))) (.one 3 (.alt (.one 1 (.one 4 (.one 5 (.one 6 (.one 7 .done))))) (.one 4 (.one 1 (.one 5 (.one 6 (.one 7 .done))))))))) (.alt (.one 1 (.alt (.one 0 (.one 3 (.one 4 (.one 5 (.one 6 (.one 7 .done)))))) (.one 3 (.one 0 (.one 4 (.one 5 (.one 6 (.one 7 .done)))))))) (.one 3 (.alt (.one 0 (.alt (.one 1 (.one 4 (.one 5 (.one 6 (.one 7 .done))))) (.one 4 (.one 1 (.one 5 (.one 6 (.one 7 .done))))))) (.one 1 (.one 0 (.one 4 (.one 5 (.one 6 (.one 7 .done)))))))))))))) (by decide +kernel) ?_
                          simp -implicitDefEqProofs only [go_sem, ↓reduceIte, Nat.reduceEqDiff, Nat.reduceLT, Nat.reduceLeDiff, Nat.reduceAdd, Nat.reduceMul, Nat.reduceSub, reduceCtorEq, Nat.reduceMod, Nat.reduceBEq, Int.reduceBEq, Int.reduceBNe, Int.reduceToNat, h4, h8, h9]
                          repeat' (first | exact fin | (refine own_spec (more.drop k) (by simp; omega) (fun e he => rise_d more x t a2 e (List.mem_of_mem_drop he)) _ _ ?_; simp -implicitDefEqProofs only [go_sem, ↓reduceIte, Nat.reduceEqDiff, Nat.reduceLT, Nat.reduceLeDiff, Nat.reduceAdd, Nat.reduceMul, Nat.reduceSub, reduceCtorEq, Nat.reduceMod, Nat.reduceBEq, Int.reduceBEq, Int.reduceBNe, Int.reduceToNat, h4, h8, h9]) | refine And.intro ?_ ?_)
                      · cases b3 : (atF l y.i).1 == y.t
                        · have hs : ¬ (y.i ≤ l.i ∨ ((atF l y.i).2 = true ∧ (atF l y.i).1 = y.t)) := by
                            simp only [beq_eq_false_iff_ne, ne_eq] at b3
                            rw [b2]; simp [b3]; omega
                          simp -implicitDefEqProofs only [go_sem, ↓reduceIte, Nat.reduceEqDiff, Nat.reduceLT, Nat.reduceLeDiff, Nat.reduceAdd, Nat.reduceMul, Nat.reduceSub, reduceCtorEq, Nat.reduceMod, Nat.reduceBEq, Int.reduceBEq, Int.reduceBNe, Int.reduceToNat, b2, b3]
                          have hb1 : IntKind.i64.wrap (y.i - 1) = y.i - 1 := wrap64 (by omega) (by omega)
                          simp -implicitDefEqProofs only [go_sem, ↓reduceIte, Nat.reduceEqDiff, Nat.reduceLT, Nat.reduceLeDiff, Nat.reduceAdd, Nat.reduceMul, Nat.reduceSub, reduceCtorEq, Nat.reduceMod, Nat.reduceBEq, Int.reduceBEq, Int.reduceBNe, Int.reduceToNat, h4, hb1]
                          refine at_spec l (y.i - 1) (by omega) (by omega) hf h _ _ ?_
                          simp -implicitDefEqProofs only [go_sem, ↓reduceIte, Nat.reduceEqDiff, Nat.reduceLT, Nat.reduceLeDiff, Nat.reduceAdd, Nat.reduceMul, Nat.reduceSub, reduceCtorEq, Nat.reduceMod, Nat.reduceBEq, Int.reduceBEq, Int.reduceBNe, Int.reduceToNat]
                          by_cases b4 : y.t < (atF l (y.i - 1)).1
                          · simp -implicitDefEqProofs only [go_sem, ↓reduceIte, Nat.reduceEqDiff, Nat.reduceLT, Nat.reduceLeDiff, Nat.reduceAdd, Nat.reduceMul, Nat.reduceSub, reduceCtorEq, Nat.reduceMod, Nat.reduceBEq, Int.reduceBEq, Int.reduceBNe, Int.reduceToNat, b4, h4, h8]
                            rw [hmt] at hK
                            simp only [if_true] at hK
                            rw [hj, joinGo, if_neg hs, if_pos b4] at hK
                            exact ⟨S, set_drop hid (fun _ _ h => h), hK⟩
                          · simp -implicitDefEqProofs only [go_sem, ↓reduceIte, Nat.reduceEqDiff, Nat.reduceLT, Nat.reduceLeDiff, Nat.reduceAdd, Nat.reduceMul, Nat.reduceSub, reduceCtorEq, Nat.reduceMod, Nat.reduceBEq, Int.reduceBEq, Int.reduceBNe, Int.reduceToNat, b4, h3]
                            have htk : List.take (more.length - k) (List.drop k more) = more.drop k := List.take_of_length_le (by simp)
                            rw [htk]
                            refine ⟨by omega, own_spec (more.drop k) (by simp; omega) (fun e he => rise_d more x t a2 e (List.mem_of_mem_drop he)) _ _ ?_⟩
                            have hw1 : IntKind.i64.wrap (y.i - l.i) = y.i - l.i := wrap64 (by omega) (by omega)
                            have hw2 : IntKind.i64.wrap (y.i - l.i - 1) = y.i - l.i - 1 := wrap64 (by omega) (by omega)
                            rw [lastF_i _ _ _ hr] at hxk
                            have hz : (0 : Int) ≤ 0 ∧ 0 ≤ y.i - l.i - 1 ∧ y.i - l.i - 1 ≤ l.rows.length := by omega
                            simp -implicitDefEqProofs only [go_sem, ↓reduceIte, Nat.reduceEqDiff, Nat.reduceLT, Nat.reduceLeDiff, Nat.reduceAdd, Nat.reduceMul, Nat.reduceSub, reduceCtorEq, Nat.reduceMod, Nat.reduceBEq, Int.reduceBEq, Int.reduceBNe, Int.reduceToNat, b2, h4, hw1, hw2, hz]
                            have hfl : [l.rows.take (y.i - l.i - 1).toNat, more.drop k].flatten = l.rows.take (y.i - l.i - 1).toNat ++ more.drop k := by simp
                            refine concat_spec [l.rows.take (y.i - l.i - 1).toNat, more.drop k] (by simp) (by simp [lens]; omega) _ _ ?_
                            have fin : ∃ S', (∀ (i : Nat) (c : List PV), S' i = some c → S.set id (some [.int .i64 l.i, .int .i64 l.t, .sl .no 3 (encL (l.rows.take (y.i - l.i - 1).toNat ++ more.drop k))]) i = some c) ∧ K (encJ ⟨⟨l.i, l.t, l.rows.take (y.i - l.i - 1).toNat ++ more.drop k⟩, if (atF l y.i).2 then y.i else 0, more.drop k, true⟩) S' := by
                              rw [hmt] at hK
                              simp only [if_true] at hK
                              rw [hj, joinGo, if_neg hs, if_neg b4, ← hdy] at hK
                              exact ⟨S, set_drop hid (fun _ _ h => h), hK⟩
                            rw [b2] at fin
                            simp only [if_true, Bool.false_eq_true, if_false] at fin
                            rw [hfl]
                            simp -implicitDefEqProofs only [go_sem, ↓reduceIte, Nat.reduceEqDiff, Nat.reduceLT, Nat.reduceLeDiff, Nat.reduceAdd, Nat.reduceMul, Nat.reduceSub, reduceCtorEq, Nat.reduceMod, Nat.reduceBEq, Int.reduceBEq, Int.reduceBNe, Int.reduceToNat, h4]
                            refine vwp_tree (t := (.alt (.one 0 (.alt (.one 1 (.one 2 (.one 3 (.one 4 (.one 5 (.one 6 (.one 7 .done))))))) (.one 2 (.alt (.one 1 (.one 3 (.one 4 (.one 5 (.one 6 (.one 7 .done)))))) (.one 3 (.alt (.one 1 (.one 4 (.one 5 (.one 6 (.one 7 .done))))) (.one 4 (.one 1 (.one 5 (.one 6 (.one 7 .done))))))))))) (.alt (.one 1 (.alt (.one 0 (.one 2 (.one 3 (.one 4 (.one 5 (.one 6 (.one 7 .done))))))) (.one 2 (.alt (.one 0 (.one 3 (.one 4 (.one 5 (.one 6 (.one 7 .done)))))) (.one 3 (.one 0 (.one 4 (.one 5 (.one 6 (.one 7 .done)))))))))) (.one 2 (.alt (.one 0 (.alt (.one 1 (.one 3 (.one 4 (.one 5 (.one 6 (.one 7 .done)))))) (.one 3 (.alt (.one 1 (.one 4 (.one 5 (.one 6 (.one 7 .done))))) (.one 4 (.one 1 (.one 5 (.one 6 (.one 7 .done))))))))) (.alt (.one 1 (.alt (.one 0 (.one 3 (.one 4 (.one 5 (.one 6 (.one 7 .done)))))) (.one 3 (.one 0 (.one 4 (.one 5 (.one 6 (.one 7 .done)))))))) (.one 3 (.alt (.one 0 (.alt (.one 1 (.one 4 (.one 5 (.one 6 (.one 7 .done))))) (.one 4 (.one 1 (.one 5 (.one 6 (.one 7 .done))))))) (.one 1 (.one 0 (.one 4 (.one 5 (.one 6 (.one 7 .done)))))))))))))) (by decide +kernel) ?_
                            simp -implicitDefEqProofs only [go_sem, ↓reduceIte, Nat.reduceEqDiff, Nat.reduceLT, Nat.reduceLeDiff, Nat.reduceAdd, Nat.reduceMul, Nat.reduceSub, reduceCtorEq, Nat.reduceMod, Nat.reduceBEq, Int.reduceBEq, Int.reduceBNe, Int.reduceToNat, h4, h8, h9]
                            repeat' (first | exact fin | (refine own_spec (more.drop k) (by simp; omega) (fun e he => rise_d more x t a2 e (List.mem_of_mem_drop he)) _ _ ?_; simp -implicitDefEqProofs only [go_sem, ↓reduceIte, Nat.reduceEqDiff, Nat.reduceLT, Nat.reduceLeDiff, Nat.reduceAdd, Nat.reduceMul, Nat.reduceSub, reduceCtorEq, Nat.reduceMod, Nat.reduceBEq, Int.reduceBEq, Int.reduceBNe, Int.reduceToNat, h4, h8, h9]) | refine And.intro ?_ ?_)
                        · have b3' : (atF l y.i).1 = y.t := by simpa using b3
                          simp -implicitDefEqProofs only [go_sem, ↓reduceIte, Nat.reduceEqDiff, Nat.reduceLT, Nat.reduceLeDiff, Nat.reduceAdd, Nat.reduceMul, Nat.reduceSub, reduceCtorEq, Nat.reduceMod, Nat.reduceBEq, Int.reduceBEq, Int.reduceBNe, Int.reduceToNat, b2, b3, h74, hk1]
                          obtain ⟨s1, s2⟩ := skip (.inr ⟨b2, b3'⟩)
                          refine ⟨_, fun _ _ h => h, ⟨rfl, k + 1, hlt, s1, ?_, ?_, ?_, ?_, ?_, ?_, ?_, s2⟩, ?_⟩
                          · simp -implicitDefEqProofs only [go_sem, ↓reduceIte, Nat.reduceEqDiff, Nat.reduceLT, Nat.reduceLeDiff, Nat.reduceAdd, Nat.reduceMul, Nat.reduceSub, reduceCtorEq, Nat.reduceMod, Nat.reduceBEq, Int.reduceBEq, Int.reduceBNe, Int.reduceToNat, h72]
                          · simp -implicitDefEqProofs only [go_sem, ↓reduceIte, Nat.reduceEqDiff, Nat.reduceLT, Nat.reduceLeDiff, Nat.reduceAdd, Nat.reduceMul, Nat.reduceSub, reduceCtorEq, Nat.reduceMod, Nat.reduceBEq, Int.reduceBEq, Int.reduceBNe, Int.reduceToNat, h73]
                          · simp -implicitDefEqProofs only [go_sem, ↓reduceIte, Nat.reduceEqDiff, Nat.reduceLT, Nat.reduceLeDiff, Nat.reduceAdd, Nat.reduceMul, Nat.reduceSub, reduceCtorEq, Nat.reduceMod, Nat.reduceBEq, Int.reduceBEq, Int.reduceBNe, Int.reduceToNat]
                          · simp -implicitDefEqProofs only [go_sem, ↓reduceIte, Nat.reduceEqDiff, Nat.reduceLT, Nat.reduceLeDiff, Nat.reduceAdd, Nat.reduceMul, Nat.reduceSub, reduceCtorEq, Nat.reduceMod, Nat.reduceBEq, Int.reduceBEq, Int.reduceBNe, Int.reduceToNat, h4]
                          · simp -implicitDefEqProofs only [go_sem, ↓reduceIte, Nat.reduceEqDiff, Nat.reduceLT, Nat.reduceLeDiff, Nat.reduceAdd, Nat.reduceMul, Nat.reduceSub, reduceCtorEq, Nat.reduceMod, Nat.reduceBEq, Int.reduceBEq, Int.reduceBNe, Int.reduceToNat, h8]
                          · simp -implicitDefEqProofs only [go_sem, ↓reduceIte, Nat.reduceEqDiff, Nat.reduceLT, Nat.reduceLeDiff, Nat.reduceAdd, Nat.reduceMul, Nat.reduceSub, reduceCtorEq, Nat.reduceMod, Nat.reduceBEq, Int.reduceBEq, Int.reduceBNe, Int.reduceToNat, h3]
                          · simp -implicitDefEqProofs only [go_sem, ↓reduceIte, Nat.reduceEqDiff, Nat.reduceLT, Nat.reduceLeDiff, Nat.reduceAdd, Nat.reduceMul, Nat.reduceSub, reduceCtorEq, Nat.reduceMod, Nat.reduceBEq, Int.reduceBEq, Int.reduceBNe, Int.reduceToNat, h9]
                          · simp -implicitDefEqProofs only [go_sem, ↓reduceIte, Nat.reduceEqDiff, Nat.reduceLT, Nat.reduceLeDiff, Nat.reduceAdd, Nat.reduceMul, Nat.reduceSub, reduceCtorEq, Nat.reduceMod, Nat.reduceBEq, Int.reduceBEq, Int.reduceBNe, Int.reduceToNat]
                            omega
                  · have hc : ¬ (k : Int) < more.length := by omega
                    simp -implicitDefEqProofs only [go_sem, ↓reduceIte, Nat.reduceEqDiff, Nat.reduceLT, Nat.reduceLeDiff, Nat.reduceAdd, Nat.reduceMul, Nat.reduceSub, reduceCtorEq, Nat.reduceMod, Nat.reduceBEq, Int.reduceBEq, Int.reduceBNe, Int.reduceToNat, hc, h4, h8]
                    rw [List.drop_of_length_le (by omega)] at hj
                    rw [hmt] at hK
                    simp only [if_true] at hK
                    rw [hj] at hK
                    exact ⟨S, set_drop hid (fun _ _ h => h), hK⟩
              · simp -implicitDefEqProofs only [go_sem, ↓reduceIte, Nat.reduceEqDiff, Nat.reduceLT, Nat.reduceLeDiff, Nat.reduceAdd, Nat.reduceMul, Nat.reduceSub, reduceCtorEq, Nat.reduceMod, Nat.reduceBEq, Int.reduceBEq, Int.reduceBNe, Int.reduceToNat, a6]
                exact bad (by
                  simp only [bne_iff_ne, ne_eq] at a6
                  simp [meets, a6]
                  omega)
          · simp -implicitDefEqProofs only [go_sem, ↓reduceIte, Nat.reduceEqDiff, Nat.reduceLT, Nat.reduceLeDiff, Nat.reduceAdd, Nat.reduceMul, Nat.reduceSub, reduceCtorEq, Nat.reduceMod, Nat.reduceBEq, Int.reduceBEq, Int.reduceBNe, Int.reduceToNat, a4]
            have hmt : meets l x t more = true := by
              simp [meets, a1, a2]
              omega
            refine vwp_loop (fun e S' => S' = S.set id (some [.int .i64 l.i, .int .i64 l.t, .sl .no 3 (encL l.rows)]) ∧ ∃ k : Nat, k ≤ more.length ∧ x + k ≤ (lastF l.i l.t l.rows).1 ∧ e 72 = .sl .no 3 (encL more) ∧ e 73 = .int .i64 more.length ∧ e 74 = .int .i64 k ∧ e 4 = .ref id 0 ∧ e 8 = .fresh 3 ∧ e 3 = .sl .no 3 (encL more) ∧ e 9 = .int .i64 0 ∧ joinGo l more = joinGo l (more.drop k)) (fun e _ => match e 74 with | .int _ k => more.length - k.toNat | _ => 0) ?_ ?_
            · exact ⟨rfl, 0, Nat.zero_le _, by omega, rfl, rfl, rfl, rfl, rfl, rfl, rfl, rfl⟩
            · rintro e S' ⟨rfl, k, hk, hxk, h72, h73, h74, h4, h8, h3, h9, hj⟩
              simp -implicitDefEqProofs only [go_sem, ↓reduceIte, Nat.reduceEqDiff, Nat.reduceLT, Nat.reduceLeDiff, Nat.reduceAdd, Nat.reduceMul, Nat.reduceSub, reduceCtorEq, Nat.reduceMod, Nat.reduceBEq, Int.reduceBEq, Int.reduceBNe, Int.reduceToNat, h72, h73, h74]
              by_cases hlt : k < more.length
              · obtain ⟨y, hy⟩ : ∃ y, more[k]? = some y := ⟨_, List.getElem?_eq_getElem hlt⟩
                have hdy : more.drop k = y :: more.drop (k + 1) := by
                  rw [List.drop_eq_getElem_cons hlt]
                  rw [List.getElem?_eq_getElem hlt] at hy
                  injection hy with hy
                  rw [hy]
                rw [hdy] at hj
                obtain ⟨y1, y2, y3, y4, y5, y6⟩ := rise_get more x t a2 k y hy
                have y7 := within_iff.1 y2
                have y8 := within_iff.1 y3
                have hin : (0 : Int) ≤ k ∧ (k : Int) < more.length := by omega
                have hk1 : IntKind.i64.wrap ((k : Int) + 1) = ((k + 1 : Nat) : Int) := wrap64 (by omega) (by omega)
                simp -implicitDefEqProofs only [go_sem, ↓reduceIte, Nat.reduceEqDiff, Nat.reduceLT, Nat.reduceLeDiff, Nat.reduceAdd, Nat.reduceMul, Nat.reduceSub, reduceCtorEq, Nat.reduceMod, Nat.reduceBEq, Int.reduceBEq, Int.reduceBNe, Int.reduceToNat, hin, h72, h73, h74, h4, getD_encL hy, encE]
                refine at_spec l y.i (by omega) (by omega) hf h _ _ ?_
                simp -implicitDefEqProofs only [go_sem, ↓reduceIte, Nat.reduceEqDiff, Nat.reduceLT, Nat.reduceLeDiff, Nat.reduceAdd, Nat.reduceMul, Nat.reduceSub, reduceCtorEq, Nat.reduceMod, Nat.reduceBEq, Int.reduceBEq, Int.reduceBNe, Int.reduceToNat, h4]
                have skip : (y.i ≤ l.i ∨ ((atF l y.i).2 = true ∧ (atF l y.i).1 = y.t)) → x + ((k + 1 : Nat) : Int) ≤ (lastF l.i l.t l.rows).1 ∧ joinGo l more = joinGo l (more.drop (k + 1)) := by
                  intro hs
                  refine ⟨?_, by rw [hj, joinGo, if_pos hs]⟩
                  rcases hs with hs | hs
                  · omega
                  · have := at_le h hs.1
                    omega
                by_cases b1 : y.i ≤ l.i
                · simp -implicitDefEqProofs only [go_sem, ↓reduceIte, Nat.reduceEqDiff, Nat.reduceLT, Nat.reduceLeDiff, Nat.reduceAdd, Nat.reduceMul, Nat.reduceSub, reduceCtorEq, Nat.reduceMod, Nat.reduceBEq, Int.reduceBEq, Int.reduceBNe, Int.reduceToNat, b1, h74, hk1]
                  obtain ⟨s1, s2⟩ := skip (.inl b1)
                  refine ⟨_, fun _ _ h => h, ⟨rfl, k + 1, hlt, s1, ?_, ?_, ?_, ?_, ?_, ?_, ?_, s2⟩, ?_⟩
                  · simp -implicitDefEqProofs only [go_sem, ↓reduceIte, Nat.reduceEqDiff, Nat.reduceLT, Nat.reduceLeDiff, Nat.reduceAdd, Nat.reduceMul, Nat.reduceSub, reduceCtorEq, Nat.reduceMod, Nat.reduceBEq, Int.reduceBEq, Int.reduceBNe, Int.reduceToNat, h72]
                  · simp -implicitDefEqProofs only [go_sem, ↓reduceIte, Nat.reduceEqDiff, Nat.reduceLT, Nat.reduceLeDiff, Nat.reduceAdd, Nat.reduceMul, Nat.reduceSub, reduceCtorEq, Nat.reduceMod, Nat.reduceBEq, Int.reduceBEq, Int.reduceBNe, Int.reduceToNat, h73]
                  · simp -implicitDefEqProofs only [go_sem, ↓reduceIte, Nat.reduceEqDiff, Nat.reduceLT, Nat.reduceLeDiff, Nat.reduceAdd, Nat.reduceMul, Nat.reduceSub, reduceCtorEq, Nat.reduceMod, Nat.reduceBEq, Int.reduceBEq, Int.reduceBNe, Int.reduceToNat]
                  · simp -implicitDefEqProofs only [go_sem, ↓reduceIte, Nat.reduceEqDiff, Nat.reduceLT, Nat.reduceLeDiff, Nat.reduceAdd, Nat.reduceMul, Nat.reduceSub, reduceCtorEq, Nat.reduceMod, Nat.reduceBEq, Int.reduceBEq, Int.reduceBNe, Int.reduceToNat, h4]
                  · simp -implicitDefEqProofs only [go_sem, ↓reduceIte, Nat.reduceEqDiff, Nat.reduceLT, Nat.reduceLeDiff, Nat.reduceAdd, Nat.reduceMul, Nat.reduceSub, reduceCtorEq, Nat.reduceMod, Nat.reduceBEq, Int.reduceBEq, Int.reduceBNe, Int.reduceToNat, h8]
                  · simp -implicitDefEqProofs only [go_sem, ↓reduceIte, Nat.reduceEqDiff, Nat.reduceLT, Nat.reduceLeDiff, Nat.reduceAdd, Nat.reduceMul, Nat.reduceSub, reduceCtorEq, Nat.reduceMod, Nat.reduceBEq, Int.reduceBEq, Int.reduceBNe, Int.reduceToNat, h3]
                  · simp -implicitDefEqProofs only [go_sem, ↓reduceIte, Nat.reduceEqDiff, Nat.reduceLT, Nat.reduceLeDiff, Nat.reduceAdd, Nat.reduceMul, Nat.reduceSub, reduceCtorEq, Nat.reduceMod, Nat.reduceBEq, Int.reduceBEq, Int.reduceBNe, Int.reduceToNat, h9]
                  · simp -implicitDefEqProofs only [go_sem, ↓reduceIte, Nat.reduceEqDiff, Nat.reduceLT, Nat.reduceLeDiff, Nat.reduceAdd, Nat.reduceMul, Nat.reduceSub, reduceCtorEq, Nat.reduceMod, Nat.reduceBEq, Int.reduceBEq, Int.reduceBNe, Int.reduceToNat]
                    omega
                · have b1' : ¬ y.i ≤ l.i := b1
                  simp -implicitDefEqProofs only [go_sem, ↓reduceIte, Nat.reduceEqDiff, Nat.reduceLT, Nat.reduceLeDiff, Nat.reduceAdd, Nat.reduceMul, Nat.reduceSub, reduceCtorEq, Nat.reduceMod, Nat.reduceBEq, Int.reduceBEq, Int.reduceBNe, Int.reduceToNat, b1']
                  cases b2 : (atF l y.i).2
                  · have hs : ¬ (y.i ≤ l.i ∨ ((atF l y.i).2 = true ∧ (atF l y.i).1 = y.t)) := by
                      rw [b2]; simp; omega
                    simp -implicitDefEqProofs only [go_sem, ↓reduceIte, Nat.reduceEqDiff, Nat.reduceLT, Nat.reduceLeDiff, Nat.reduceAdd, Nat.reduceMul, Nat.reduceSub, reduceCtorEq, Nat.reduceMod, Nat.reduceBEq, Int.reduceBEq, Int.reduceBNe, Int.reduceToNat, b2]
                    have hb1 : IntKind.i64.wrap (y.i - 1) = y.i - 1 := wrap64 (by omega) (by omega)
                    simp -implicitDefEqProofs only [go_sem, ↓reduceIte, Nat.reduceEqDiff, Nat.reduceLT, Nat.reduceLeDiff, Nat.reduceAdd, Nat.reduceMul, Nat.reduceSub, reduceCtorEq, Nat.reduceMod, Nat.reduceBEq, Int.reduceBEq, Int.reduceBNe, Int.reduceToNat, h4, hb1]
                    refine at_spec l (y.i - 1) (by omega) (by omega) hf h _ _ ?_
                    simp -implicitDefEqProofs only [go_sem, ↓reduceIte, Nat.reduceEqDiff, Nat.reduceLT, Nat.reduceLeDiff, Nat.reduceAdd, Nat.reduceMul, Nat.reduceSub, reduceCtorEq, Nat.reduceMod, Nat.reduceBEq, Int.reduceBEq, Int.reduceBNe, Int.reduceToNat]
                    by_cases b4 : y.t < (atF l (y.i - 1)).1
                    · simp -implicitDefEqProofs only [go_sem, ↓reduceIte, Nat.reduceEqDiff, Nat.reduceLT, Nat.reduceLeDiff, Nat.reduceAdd, Nat.reduceMul, Nat.reduceSub, reduceCtorEq, Nat.reduceMod, Nat.reduceBEq, Int.reduceBEq, Int.reduceBNe, Int.reduceToNat, b4, h4, h8]
                      rw [hmt] at hK
                      simp only [if_true] at hK
                      rw [hj, joinGo, if_neg hs, if_pos b4] at hK
                      exact ⟨S, set_drop hid (fun _ _ h => h), hK⟩
                    · simp -implicitDefEqProofs only [go_sem, ↓reduceIte, Nat.reduceEqDiff, Nat.reduceLT, Nat.reduceLeDiff, Nat.reduceAdd, Nat.reduceMul, Nat.reduceSub, reduceCtorEq, Nat.reduceMod, Nat.reduceBEq, Int.reduceBEq, Int.reduceBNe, Int.reduceToNat, b4, h3]
                      have htk : List.take (more.length - k) (List.drop k more) = more.drop k := List.take_of_length_le (by simp)
                      rw [htk]
                      refine ⟨by omega, own_spec (more.drop k) (by simp; omega) (fun e he => rise_d more x t a2 e (List.mem_of_mem_drop he)) _ _ ?_⟩
                      have hw1 : IntKind.i64.wrap (y.i - l.i) = y.i - l.i := wrap64 (by omega) (by omega)
                      have hw2 : IntKind.i64.wrap (y.i - l.i - 1) = y.i - l.i - 1 := wrap64 (by omega) (by omega)
                      rw [lastF_i _ _ _ hr] at hxk
                      have hz : (0 : Int) ≤ 0 ∧ 0 ≤ y.i - l.i - 1 ∧ y.i - l.i - 1 ≤ l.rows.length := by omega
                      simp -implicitDefEqProofs only [go_sem, ↓reduceIte, Nat.reduceEqDiff, Nat.reduceLT, Nat.reduceLeDiff, Nat.reduceAdd, Nat.reduceMul, Nat.reduceSub, reduceCtorEq, Nat.reduceMod, Nat.reduceBEq, Int.reduceBEq, Int.reduceBNe, Int.reduceToNat, b2, h4, hw1, hw2, hz]
                      have hfl : [l.rows.take (y.i - l.i - 1).toNat, more.drop k].flatten = l.rows.take (y.i - l.i - 1).toNat ++ more.drop k := by simp
                      refine concat_spec [l.rows.take (y.i - l.i - 1).toNat, more.drop k] (by simp) (by simp [lens]; omega) _ _ ?_
                      have fin : ∃ S', (∀ (i : Nat) (c : List PV), S' i = some c → S.set id (some [.int .i64 l.i, .int .i64 l.t, .sl .no 3 (encL (l.rows.take (y.i - l.i - 1).toNat ++ more.drop k))]) i = some c) ∧ K (encJ ⟨⟨l.i, l.t, l.rows.take (y.i - l.i - 1).toNat ++ more.drop k⟩, if (atF l y.i).2 then y.i else 0, more.drop k, true⟩) S' := by
                        rw [hmt] at hK
                        simp only [if_true] at hK
                        rw [hj, joinGo, if_neg hs, if_neg b4, ← hdy] at hK
                        exact ⟨S, set_drop hid (fun _ _ h => h), hK⟩
                      rw [b2] at fin
                      simp only [if_true, Bool.false_eq_true, if_false] at fin
                      rw [hfl]
                      simp -implicitDefEqProofs only [go_sem, ↓reduceIte, Nat.reduceEqDiff, Nat.reduceLT, Nat.reduceLeDiff, Nat.reduceAdd, Nat.reduceMul, Nat.reduceSub, reduceCtorEq, Nat.reduceMod, Nat.reduceBEq, Int.reduceBEq, Int.reduceBNe, Int.reduceToNat, h4]
                      refine vwp_tree (t := (.alt (.one 0 (.alt (.one 1 (.one 2 (.one 3 (.one 4 (.one 5 (.one 6 (.one 7 .done))))))) (.one 2 (.alt (.one 1 (.one 3 (.one 4 (.one 5 (.one 6 (.one 7 .done)))))) (.one 3 (.alt (.one 1 (.one 4 (.one 5 (.one 6 (.one 7 .done))))) (.one 4 (.one 1 (.one 5 (.one 6 (.one 7 .done))))))))))) (.alt (.one 1 (.alt (.one 0 (.one 2 (.one 3 (.one 4 (.one 5 (.one 6 (.one 7 .done))))))) (.one 2 (.alt (.one 0 (.one 3 (.one 4 (.one 5 (.one 6 (.one 7 .done)))))) (.one 3 (.one 0 (.one 4 (.one 5 (.one 6 (.one 7 .done)))))))))) (.one 2 (.alt (.one 0 (.alt (.one 1 (.one 3 (.one 4 (.one 5 (.one 6 (.one 7 .done)))))) (.one 3 (.alt (.one 1 (.one 4 (.one 5 (.one 6 (.one 7 .done))))) (.one 4 (.one 1 (.one 5 (.one 6 (.one 7 .done))))))))) (.alt (.one 1 (.alt (.one 0 (.one 3 (.one 4 (.one 5 (.one 6 (.one 7 .done)))))) (.one 3 (.one 0 (.one 4 (.one 5 (.one 6 (.one 7 .done)))))))) (.one 3 (.alt (.one 0 (.alt (.one 1 (.one 4 (.one 5 (.one 6 (.one 7 .done))))) (.one 4 (.one 1 (.one 5 (.one 6 (.one 7 .done))))))) (.one 1 (.one 0 (.one 4 (.one 5 (.one 6 (.one 7 .done)))))))))))))) (by decide +kernel) ?_
                      simp -implicitDefEqProofs only [go_sem, ↓reduceIte, Nat.reduceEqDiff, Nat.reduceLT, Nat.reduceLeDiff, Nat.reduceAdd, Nat.reduceMul, Nat.reduceSub, reduceCtorEq, Nat.reduceMod, Nat.reduceBEq, Int.reduceBEq, Int.reduceBNe, Int.reduceToNat, h4, h8, h9]
                      repeat' (first | exact fin | (refine own_spec (more.drop k) (by simp; omega) (fun e he => rise_d more x t a2 e (List.mem_of_mem_drop he)) _ _ ?_; simp -implicitDefEqProofs only [go_sem, ↓reduceIte, Nat.reduceEqDiff, Nat.reduceLT, Nat.reduceLeDiff, Nat.reduceAdd, Nat.reduceMul, Nat.reduceSub, reduceCtorEq, Nat.reduceMod, Nat.reduceBEq, Int.reduceBEq, Int.reduceBNe, Int.reduceToNat, h4, h8, h9]) | refine And.intro ?_ ?_)
                  · cases b3 : (atF l y.i).1 == y.t
                    · have hs : ¬ (y.i ≤ l.i ∨ ((atF l y.i).2 = true ∧ (atF l y.i).1 = y.t)) := by
                        simp only [beq_eq_false_iff_ne, ne_eq] at b3
                        rw [b2]; simp [b3]; omega
                      simp -implicitDefEqProofs only [go_sem, ↓reduceIte, Nat.reduceEqDiff, Nat.reduceLT, Nat.reduceLeDiff, Nat.reduceAdd, Nat.reduceMul, Nat.reduceSub, reduceCtorEq, Nat.reduceMod, Nat.reduceBEq, Int.reduceBEq, Int.reduceBNe, Int.reduceToNat, b2, b3]
                      have hb1 : IntKind.i64.wrap (y.i - 1) = y.i - 1 := wrap64 (by omega) (by omega)
                      simp -implicitDefEqProofs only [go_sem, ↓reduceIte, Nat.reduceEqDiff, Nat.reduceLT, Nat.reduceLeDiff, Nat.reduceAdd, Nat.reduceMul, Nat.reduceSub, reduceCtorEq, Nat.reduceMod, Nat.reduceBEq, Int.reduceBEq, Int.reduceBNe, Int.reduceToNat, h4, hb1]
                      refine at_spec l (y.i - 1) (by omega) (by omega) hf h _ _ ?_
                      simp -implicitDefEqProofs only [go_sem, ↓reduceIte, Nat.reduceEqDiff, Nat.reduceLT, Nat.reduceLeDiff, Nat.reduceAdd, Nat.reduceMul, Nat.reduceSub, reduceCtorEq, Nat.reduceMod, Nat.reduceBEq, Int.reduceBEq, Int.reduceBNe, Int.reduceToNat]
                      by_cases b4 : y.t < (atF l (y.i - 1)).1
                      · simp -implicitDefEqProofs only [go_sem, ↓reduceIte, Nat.reduceEqDiff, Nat.reduceLT, Nat.reduceLeDiff, Nat.reduceAdd, Nat.reduceMul, Nat.reduceSub, reduceCtorEq, Nat.reduceMod, Nat.reduceBEq, Int.reduceBEq, Int.reduceBNe, Int.reduceToNat, b4, h4, h8]
                        rw [hmt] at hK
                        simp only [if_true] at hK
                        rw [hj, joinGo, if_neg hs, if_pos b4] at hK
                        exact ⟨S, set_drop hid (fun _ _ h => h), hK⟩
                      · simp -implicitDefEqProofs only [go_sem, ↓reduceIte, Nat.reduceEqDiff, Nat.reduceLT, Nat.reduceLeDiff, Nat.reduceAdd, Nat.reduceMul, Nat.reduceSub, reduceCtorEq, Nat.reduceMod, Nat.reduceBEq, Int.reduceBEq, Int.reduceBNe, Int.reduceToNat, b4, h3]
                        have htk : List.take (more.length - k) (List.drop k more) = more.drop k := List.take_of_length_le (by simp)
                        rw [htk]
                        refine ⟨by omega, own_spec (more.drop k) (by simp; omega) (fun e he => rise_d more x t a2 e (List.mem_of_mem_drop he)) _ _ ?_⟩
                        have hw1 : IntKind.i64.wrap (y.i - l.i) = y.i - l.i := wrap64 (by omega) (by omega)
                        have hw2 : IntKind.i64.wrap (y.i - l.i - 1) = y.i - l.i - 1 := wrap64 (by omega) (by omega)
                        rw [lastF_i _ _ _ hr] at hxk
                        have hz : (0 : Int) ≤ 0 ∧ 0 ≤ y.i - l.i - 1 ∧ y.i - l.i - 1 ≤ l.rows.length := by omega
                        simp -implicitDefEqProofs only [go_sem, ↓reduceIte, Nat.reduceEqDiff, Nat.reduceLT, Nat.reduceLeDiff, Nat.reduceAdd, Nat.reduceMul, Nat.reduceSub, reduceCtorEq, Nat.reduceMod, Nat.reduceBEq, Int.reduceBEq, Int.reduceBNe, Int.reduceToNat, b2, h4, hw1, hw2, hz]
                        have hfl : [l.rows.take (y.i - l.i - 1).toNat, more.drop k].flatten = l.rows.take (y.i - l.i - 1).toNat ++ more.drop k := by simp
                        refine concat_spec [l.rows.take (y.i - l.i - 1).toNat, more.drop k] (by simp) (by simp [lens]; omega) _ _ ?_
                        have fin : ∃ S', (∀ (i : Nat) (c : List PV), S' i = some c → S.set id (some [.int .i64 l.i, .int .i64 l.t, .sl .no 3 (encL (l.rows.take (y.i - l.i - 1).toNat ++ more.drop k))]) i = some c) ∧ K (encJ ⟨⟨l.i, l.t, l.rows.take (y.i - l.i - 1).toNat ++ more.drop k⟩, if (atF l y.i).2 then y.i else 0, more.drop k, true⟩) S' := by
                          rw [hmt] at hK
                          simp only [if_true] at hK
                          rw [hj, joinGo, if_neg hs, if_neg b4, ← hdy] at hK
                          exact ⟨S, set_drop hid (fun _ _ h => h), hK⟩
                        rw [b2] at fin
                        simp only [if_true, Bool.false_eq_true, if_false] at fin
                        rw [hfl]
                        simp -implicitDefEqProofs only [go_sem, ↓reduceIte, Nat.reduceEqDiff, Nat.reduceLT, Nat.reduceLeDiff, Nat.reduceAdd, Nat.reduceMul, Nat.reduceSub, reduceCtorEq, Nat.reduceMod, Nat.reduceBEq, Int.reduceBEq, Int.reduceBNe, Int.reduceToNat, h4]
                        refine vwp_tree (t := (.alt (.one 0 (.alt (.one 1 (.one 2 (.one 3 (.one 4 (.one 5 (.one 6 (.one 7 .done))))))) (.one 2 (.alt (.one 1 (.one 3 (.one 4 (.one 5 (.one 6 (.one 7 .done)))))) (.one 3 (.alt (.one 1 (.one 4 (.one 5 (.one 6 (.one 7 .done))))) (.one 4 (.one 1 (.one 5 (.one 6 (.one 7 .done))))))))))) (.alt (.one 1 (.alt (.one 0 (.one 2 (.one 3 (.one 4 (.one 5 (.one 6 (.one 7 .done))))))) (.one 2 (.alt (.one 0 (.one 3 (.one 4 (.one 5 (.one 6 (.one 7 .done)))))) (.one 3 (.one 0 (.one 4 (.one 5 (.one 6 (.one 7 .done)))))))))) (.one 2 (.alt (.one 0 (.alt (.one 1 (.one 3 (.one 4 (.one 5 (.one 6 (.one 7 .done)))))) (.one 3 (.alt (.one 1 (.one 4 (.one 5 (.one 6 (.one 7 .done))))) (.one 4 (.one 1 (.one 5 (.one 6 (.one 7 .done))))))))) (.alt (.one 1 (.alt (.one 0 (.one 3 (.one 4 (.one 5 (.one 6 (.one 7 .done)))))) (.one 3 (.one 0 (.one 4 (.one 5 (.one 6 (.one 7 .done)))))))) (.one 3 (.alt (.one 0 (.alt (.one 1 (.one 4 (.one 5 (.one 6 (.one 7 .done))))) (.one 4 (.one 1 (.one 5 (.one 6 (.one 7 .done))))))) (.one 1 (.one 0 (.one 4 (.one 5 (.one 6 (.one 7 .done)))))))))))))) (by decide +kernel) ?_
                        simp -implicitDefEqProofs only [go_sem, ↓reduceIte, Nat.reduceEqDiff, Nat.reduceLT, Nat.reduceLeDiff, Nat.reduceAdd, Nat.reduceMul, Nat.reduceSub, reduceCtorEq, Nat.reduceMod, Nat.reduceBEq, Int.reduceBEq, Int.reduceBNe, Int.reduceToNat, h4, h8, h9]
                        repeat' (first | exact fin | (refine own_spec (more.drop k) (by simp; omega) (fun e he => rise_d more x t a2 e (List.mem_of_mem_drop he)) _ _ ?_; simp -implicitDefEqProofs only [go_sem, ↓reduceIte, Nat.reduceEqDiff, Nat.reduceLT, Nat.reduceLeDiff, Nat.reduceAdd, Nat.reduceMul, Nat.reduceSub, reduceCtorEq, Nat.reduceMod, Nat.reduceBEq, Int.reduceBEq, Int.reduceBNe, Int.reduceToNat, h4, h8, h9]) | refine And.intro ?_ ?_)
                    · have b3' : (atF l y.i).1 = y.t := by simpa using b3
                      simp -implicitDefEqProofs only [go_sem, ↓reduceIte, Nat.reduceEqDiff, Nat.reduceLT, Nat.reduceLeDiff, Nat.reduceAdd, Nat.reduceMul, Nat.reduceSub, reduceCtorEq, Nat.reduceMod, Nat.reduceBEq, Int.reduceBEq, Int.reduceBNe, Int.reduceToNat, b2, b3, h74, hk1]
                      obtain ⟨s1, s2⟩ := skip (.inr ⟨b2, b3'⟩)
                      refine ⟨_, fun _ _ h => h, ⟨rfl, k + 1, hlt, s1, ?_, ?_, ?_, ?_, ?_, ?_, ?_, s2⟩, ?_⟩
                      · simp -implicitDefEqProofs only [go_sem, ↓reduceIte, Nat.reduceEqDiff, Nat.reduceLT, Nat.reduceLeDiff, Nat.reduceAdd, Nat.reduceMul, Nat.reduceSub, reduceCtorEq, Nat.reduceMod, Nat.reduceBEq, Int.reduceBEq, Int.reduceBNe, Int.reduceToNat, h72]
                      · simp -implicitDefEqProofs only [go_sem, ↓reduceIte, Nat.reduceEqDiff, Nat.reduceLT, Nat.reduceLeDiff, Nat.reduceAdd, Nat.reduceMul, Nat.reduceSub, reduceCtorEq, Nat.reduceMod, Nat.reduceBEq, Int.reduceBEq, Int.reduceBNe, Int.reduceToNat, h73]
                      · simp -implicitDefEqProofs only [go_sem, ↓reduceIte, Nat.reduceEqDiff, Nat.reduceLT, Nat.reduceLeDiff, Nat.reduceAdd, Nat.reduceMul, Nat.reduceSub, reduceCtorEq, Nat.reduceMod, Nat.reduceBEq, Int.reduceBEq, Int.reduceBNe, Int.reduceToNat]
                      · simp -implicitDefEqProofs only [go_sem, ↓reduceIte, Nat.reduceEqDiff, Nat.reduceLT, Nat.reduceLeDiff, Nat.reduceAdd, Nat.reduceMul, Nat.reduceSub, reduceCtorEq, Nat.reduceMod, Nat.reduceBEq, Int.reduceBEq, Int.reduceBNe, Int.reduceToNat, h4]
                      · simp -implicitDefEqProofs only [go_sem, ↓reduceIte, Nat.reduceEqDiff, Nat.reduceLT, Nat.reduceLeDiff, Nat.reduceAdd, Nat.reduceMul, Nat.reduceSub, reduceCtorEq, Nat.reduceMod, Nat.reduceBEq, Int.reduceBEq, Int.reduceBNe, Int.reduceToNat, h8]
                      · simp -implicitDefEqProofs only [go_sem, ↓reduceIte, Nat.reduceEqDiff, Nat.reduceLT, Nat.reduceLeDiff, Nat.reduceAdd, Nat.reduceMul, Nat.reduceSub, reduceCtorEq, Nat.reduceMod, Nat.reduceBEq, Int.reduceBEq, Int.reduceBNe, Int.reduceToNat, h3]
                      · simp -implicitDefEqProofs only [go_sem, ↓reduceIte, Nat.reduceEqDiff, Nat.reduceLT, Nat.reduceLeDiff, Nat.reduceAdd, Nat.reduceMul, Nat.reduceSub, reduceCtorEq, Nat.reduceMod, Nat.reduceBEq, Int.reduceBEq, Int.reduceBNe, Int.reduceToNat, h9]
                      · simp -implicitDefEqProofs only [go_sem, ↓reduceIte, Nat.reduceEqDiff, Nat.reduceLT, Nat.reduceLeDiff, Nat.reduceAdd, Nat.reduceMul, Nat.reduceSub, reduceCtorEq, Nat.reduceMod, Nat.reduceBEq, Int.reduceBEq, Int.reduceBNe, Int.reduceToNat]
                        omega
              · have hc : ¬ (k : Int) < more.length := by omega
                simp -implicitDefEqProofs only [go_sem, ↓reduceIte, Nat.reduceEqDiff, Nat.reduceLT, Nat.reduceLeDiff, Nat.reduceAdd, Nat.reduceMul, Nat.reduceSub, reduceCtorEq, Nat.reduceMod, Nat.reduceBEq, Int.reduceBEq, Int.reduceBNe, Int.reduceToNat, hc, h4, h8]
                rw [List.drop_of_length_le (by omega)] at hj
                rw [hmt] at hK
                simp only [if_true] at hK
                rw [hj] at hK
                exact ⟨S, set_drop hid (fun _ _ h => h), hK⟩
end Go.Proofs.Ytjdfajibflodbaa.V
