/- Rows: from where on to ask, who is fresh, and what is cut. -/
import Derived.Test.YtjdfajibflodbaaRW
set_option linter.unusedVariables false
set_option linter.unusedSimpArgs false
namespace Go.Proofs.Ytjdfajibflodbaa.V
open Go Go.VL

theorem all_take {α : Type} {p : α → Bool} {l : List α} {k : Nat} {y : α} (h : l[k]? = some y) : (l.take (k + 1)).all p = ((l.take k).all p && p y) := by
  rw [List.take_add_one, h, List.all_append]
  simp

theorem refHint_spec (l : Lg) (x : Int) (hx : InR x) (hc : chk l = true) (hl : l.rows.length ≤ 100000) (S : Store) : PRet Try.prog 27 [encG l, .int .i64 x] S (.int .i64 (hintF l x)) := by
  intro K hK
  refine pcalls_of (C := C) (fun _ => false) (fun _ => false) Try.func27 rfl rfl (by simp [Try.f27]) ?_
  obtain ⟨c1, c2, c3, c4, hr⟩ := chk_iff hc
  have hle := lastF_le hc
  unfold InR at hx
  simp -implicitDefEqProofs only [go_sem, ↓reduceIte, Nat.reduceEqDiff, Nat.reduceLT, Nat.reduceLeDiff, Nat.reduceAdd, Nat.reduceMul, Nat.reduceSub, reduceCtorEq, Nat.reduceMod, Nat.reduceBEq, Int.reduceBEq, Int.reduceBNe, Int.reduceToNat, Try.f27, encG]
  refine refLast_spec l hl _ _ ?_
  simp -implicitDefEqProofs only [go_sem, ↓reduceIte, Nat.reduceEqDiff, Nat.reduceLT, Nat.reduceLeDiff, Nat.reduceAdd, Nat.reduceMul, Nat.reduceSub, reduceCtorEq, Nat.reduceMod, Nat.reduceBEq, Int.reduceBEq, Int.reduceBNe, Int.reduceToNat]
  by_cases h0 : (lastF l.i l.t l.rows).1 < x
  · have hw : IntKind.i64.wrap ((lastF l.i l.t l.rows).1 + 1) = (lastF l.i l.t l.rows).1 + 1 := wrap64 (by omega) (by omega)
    unfold hintF at hK
    rw [if_pos h0] at hK
    simp -implicitDefEqProofs only [go_sem, ↓reduceIte, Nat.reduceEqDiff, Nat.reduceLT, Nat.reduceLeDiff, Nat.reduceAdd, Nat.reduceMul, Nat.reduceSub, reduceCtorEq, Nat.reduceMod, Nat.reduceBEq, Int.reduceBEq, Int.reduceBNe, Int.reduceToNat, h0, hw]
    exact ⟨S, fun _ _ h => h, hK⟩
  · have hw : IntKind.i64.wrap (l.i + 1) = l.i + 1 := wrap64 (by omega) (by omega)
    have hmx : (if l.i + 1 > x then l.i + 1 else x) = max x (l.i + 1) := by split <;> omega
    simp -implicitDefEqProofs only [go_sem, ↓reduceIte, Nat.reduceEqDiff, Nat.reduceLT, Nat.reduceLeDiff, Nat.reduceAdd, Nat.reduceMul, Nat.reduceSub, reduceCtorEq, Nat.reduceMod, Nat.reduceBEq, Int.reduceBEq, Int.reduceBNe, Int.reduceToNat, h0, hw, hmx]
    have hxe : x ≤ (lastF l.i l.t l.rows).1 := by omega
    have hfound := @hint_found l hc x hxe
    have hend := @hint_end l hc x hxe
    generalize hat : max x (l.i + 1) = at_ at *
    refine vloop (fun e S' => S' = S ∧ ∃ k : Nat, k ≤ l.rows.length ∧ e 2 = .ip [.int .i64 l.i, .int .i64 l.t, .sl .no 3 (encL l.rows)] 0 ∧ e 7 = .int .i64 at_ ∧ e 31 = .sl .no 3 (encL l.rows) ∧ e 32 = .int .i64 l.rows.length ∧ e 33 = .int .i64 k ∧
      ∀ (j : Nat) (e : Ent), j < k → l.rows[j]? = some e → l.rows.all (sameP l at_ (atF l at_).1 e) = false ∨ at_ < e.i) (fun e _ => l.rows.length - iv (e 33)) ?_ ?_
    · exact ⟨rfl, 0, Nat.zero_le _, rfl, rfl, rfl, rfl, rfl, by omega⟩
    · rintro J M Q' hJ hM hQ e S' ⟨rfl, k, hk, e2, e7, e31, e32, e33, hn⟩
      simp -implicitDefEqProofs only [go_sem, ↓reduceIte, Nat.reduceEqDiff, Nat.reduceLT, Nat.reduceLeDiff, Nat.reduceAdd, Nat.reduceMul, Nat.reduceSub, reduceCtorEq, Nat.reduceMod, Nat.reduceBEq, Int.reduceBEq, Int.reduceBNe, Int.reduceToNat, e32, e33]
      by_cases hlt : k < l.rows.length
      · obtain ⟨y, hy⟩ : ∃ y, l.rows[k]? = some y := ⟨_, List.getElem?_eq_getElem hlt⟩
        have hin : (0 : Int) ≤ k ∧ (k : Int) < l.rows.length := by omega
        have hk1 : IntKind.i64.wrap ((k : Int) + 1) = ((k + 1 : Nat) : Int) := wrap64 (by omega) (by omega)
        simp -implicitDefEqProofs only [go_sem, ↓reduceIte, Nat.reduceEqDiff, Nat.reduceLT, Nat.reduceLeDiff, Nat.reduceAdd, Nat.reduceMul, Nat.reduceSub, reduceCtorEq, Nat.reduceMod, Nat.reduceBEq, Int.reduceBEq, Int.reduceBNe, Int.reduceToNat, hin, e2, e31, e32, e33, getD_encL hy, encE]
        refine vloop (fun e S2 => S2 = S' ∧ ∃ k2 : Nat, k2 ≤ l.rows.length ∧ e 2 = .ip [.int .i64 l.i, .int .i64 l.t, .sl .no 3 (encL l.rows)] 0 ∧ e 7 = .int .i64 at_ ∧ e 9 = .ip [.int .i64 y.i, .int .i64 y.t, .sl .no 1 (encD y.d)] 0 ∧ e 31 = .sl .no 3 (encL l.rows) ∧ e 32 = .int .i64 l.rows.length ∧ e 33 = .int .i64 k ∧
          e 38 = .sl .no 3 (encL l.rows) ∧ e 39 = .int .i64 l.rows.length ∧ e 40 = .int .i64 k2 ∧ e 10 = .bool ((l.rows.take k2).all (sameP l at_ (atF l at_).1 y))) (fun e _ => l.rows.length - iv (e 40)) ?_ ?_
        · refine ⟨rfl, 0, Nat.zero_le _, ?_, ?_, ?_, ?_, ?_, ?_, ?_, ?_, rfl, ?_⟩ <;> simp -implicitDefEqProofs only [go_sem, ↓reduceIte, Nat.reduceEqDiff, Nat.reduceLT, Nat.reduceLeDiff, Nat.reduceAdd, Nat.reduceMul, Nat.reduceSub, reduceCtorEq, Nat.reduceMod, Nat.reduceBEq, Int.reduceBEq, Int.reduceBNe, Int.reduceToNat, e2, e7, e31, e32, e33, List.all_nil]
        · rintro J2 M2 Q2 hJ2 hM2 hQ2 e' S2 ⟨rfl, k2, hk2, f2, f7, f9, f31, f32, f33, f38, f39, f40, f10⟩
          simp -implicitDefEqProofs only [go_sem, ↓reduceIte, Nat.reduceEqDiff, Nat.reduceLT, Nat.reduceLeDiff, Nat.reduceAdd, Nat.reduceMul, Nat.reduceSub, reduceCtorEq, Nat.reduceMod, Nat.reduceBEq, Int.reduceBEq, Int.reduceBNe, Int.reduceToNat, f39, f40]
          by_cases hlt2 : k2 < l.rows.length
          · obtain ⟨z, hz⟩ : ∃ z, l.rows[k2]? = some z := ⟨_, List.getElem?_eq_getElem hlt2⟩
            have hin2 : (0 : Int) ≤ k2 ∧ (k2 : Int) < l.rows.length := by omega
            have hk21 : IntKind.i64.wrap ((k2 : Int) + 1) = ((k2 + 1 : Nat) : Int) := wrap64 (by omega) (by omega)
            simp -implicitDefEqProofs only [go_sem, ↓reduceIte, Nat.reduceEqDiff, Nat.reduceLT, Nat.reduceLeDiff, Nat.reduceAdd, Nat.reduceMul, Nat.reduceSub, reduceCtorEq, Nat.reduceMod, Nat.reduceBEq, Int.reduceBEq, Int.reduceBNe, Int.reduceToNat, hin2, f2, f7, f9, f38, f39, f40, f10, getD_encL hz, encE]
            refine refAt_spec l at_ hc hl _ _ ?_
            simp -implicitDefEqProofs only [go_sem, ↓reduceIte, Nat.reduceEqDiff, Nat.reduceLT, Nat.reduceLeDiff, Nat.reduceAdd, Nat.reduceMul, Nat.reduceSub, reduceCtorEq, Nat.reduceMod, Nat.reduceBEq, Int.reduceBEq, Int.reduceBNe, Int.reduceToNat, f7, f9, f10]
            have hst := all_take (p := sameP l at_ (atF l at_).1 y) hz
            generalize hq : (l.rows.take k2).all (sameP l at_ (atF l at_).1 y) = q at hst f10 ⊢
            have fin : ∀ e2 : Env, e2 2 = .ip [.int .i64 l.i, .int .i64 l.t, .sl .no 3 (encL l.rows)] 0 → e2 7 = .int .i64 at_ → e2 9 = .ip [.int .i64 y.i, .int .i64 y.t, .sl .no 1 (encD y.d)] 0 → e2 31 = .sl .no 3 (encL l.rows) → e2 32 = .int .i64 l.rows.length → e2 33 = .int .i64 k →
                e2 38 = .sl .no 3 (encL l.rows) → e2 39 = .int .i64 l.rows.length → e2 40 = .int .i64 ((k2 + 1 : Nat) : Int) → e2 10 = .bool (q && sameP l at_ (atF l at_).1 y z) → loopK J2 M2 (l.rows.length - iv (e' 40)) Q2 .normal e2 S2 := by
              intro e2 g2 g7 g9 g31 g32 g33 g38 g39 g40 g10
              refine vnext hJ2 hM2 S2 (fun _ _ h => h) ⟨rfl, k2 + 1, hlt2, g2, g7, g9, g31, g32, g33, g38, g39, g40, by rw [g10, hst]⟩ ?_
              rw [g40, f40]
              simp only [iv_int, Int.toNat_natCast]
              omega
            cases q
            · simp -implicitDefEqProofs only [go_sem, ↓reduceIte, Nat.reduceEqDiff, Nat.reduceLT, Nat.reduceLeDiff, Nat.reduceAdd, Nat.reduceMul, Nat.reduceSub, reduceCtorEq, Nat.reduceMod, Nat.reduceBEq, Int.reduceBEq, Int.reduceBNe, Int.reduceToNat, f40, hk21]
              rw [f40] at fin
              refine fin _ ?_ ?_ ?_ ?_ ?_ ?_ ?_ ?_ ?_ ?_ <;> simp -implicitDefEqProofs only [go_sem, ↓reduceIte, Nat.reduceEqDiff, Nat.reduceLT, Nat.reduceLeDiff, Nat.reduceAdd, Nat.reduceMul, Nat.reduceSub, reduceCtorEq, Nat.reduceMod, Nat.reduceBEq, Int.reduceBEq, Int.reduceBNe, Int.reduceToNat, f2, f7, f9, f31, f32, f33, f38, f39, Bool.false_and]
            · rcases (Bool.eq_false_or_eq_true (decide (z.i < y.i))).symm with b1 | b1
              · rcases (Bool.eq_false_or_eq_true (decide (at_ < z.i))).symm with b2 | b2
                · rcases (Bool.eq_false_or_eq_true (z.t == (atF l at_).1)).symm with b3 | b3
                  · simp -implicitDefEqProofs only [go_sem, ↓reduceIte, Nat.reduceEqDiff, Nat.reduceLT, Nat.reduceLeDiff, Nat.reduceAdd, Nat.reduceMul, Nat.reduceSub, reduceCtorEq, Nat.reduceMod, Nat.reduceBEq, Int.reduceBEq, Int.reduceBNe, Int.reduceToNat, b1, b2, b3, f7, f9, f40, hk21]
                    rw [f40] at fin
                    refine fin _ ?_ ?_ ?_ ?_ ?_ ?_ ?_ ?_ ?_ ?_ <;> simp -implicitDefEqProofs only [go_sem, ↓reduceIte, Nat.reduceEqDiff, Nat.reduceLT, Nat.reduceLeDiff, Nat.reduceAdd, Nat.reduceMul, Nat.reduceSub, reduceCtorEq, Nat.reduceMod, Nat.reduceBEq, Int.reduceBEq, Int.reduceBNe, Int.reduceToNat, f2, f7, f9, f31, f32, f33, f38, f39, Bool.true_and, sameP, b1, b2, b3]
                  · simp -implicitDefEqProofs only [go_sem, ↓reduceIte, Nat.reduceEqDiff, Nat.reduceLT, Nat.reduceLeDiff, Nat.reduceAdd, Nat.reduceMul, Nat.reduceSub, reduceCtorEq, Nat.reduceMod, Nat.reduceBEq, Int.reduceBEq, Int.reduceBNe, Int.reduceToNat, b1, b2, b3, f7, f9, f40, hk21]
                    rw [f40] at fin
                    refine fin _ ?_ ?_ ?_ ?_ ?_ ?_ ?_ ?_ ?_ ?_ <;> simp -implicitDefEqProofs only [go_sem, ↓reduceIte, Nat.reduceEqDiff, Nat.reduceLT, Nat.reduceLeDiff, Nat.reduceAdd, Nat.reduceMul, Nat.reduceSub, reduceCtorEq, Nat.reduceMod, Nat.reduceBEq, Int.reduceBEq, Int.reduceBNe, Int.reduceToNat, f2, f7, f9, f31, f32, f33, f38, f39, Bool.true_and, sameP, b1, b2, b3]
                · simp -implicitDefEqProofs only [go_sem, ↓reduceIte, Nat.reduceEqDiff, Nat.reduceLT, Nat.reduceLeDiff, Nat.reduceAdd, Nat.reduceMul, Nat.reduceSub, reduceCtorEq, Nat.reduceMod, Nat.reduceBEq, Int.reduceBEq, Int.reduceBNe, Int.reduceToNat, b1, b2, f7, f9, f40, hk21]
                  rw [f40] at fin
                  refine fin _ ?_ ?_ ?_ ?_ ?_ ?_ ?_ ?_ ?_ ?_ <;> simp -implicitDefEqProofs only [go_sem, ↓reduceIte, Nat.reduceEqDiff, Nat.reduceLT, Nat.reduceLeDiff, Nat.reduceAdd, Nat.reduceMul, Nat.reduceSub, reduceCtorEq, Nat.reduceMod, Nat.reduceBEq, Int.reduceBEq, Int.reduceBNe, Int.reduceToNat, f2, f7, f9, f31, f32, f33, f38, f39, Bool.true_and, sameP, b1, b2]
              · simp -implicitDefEqProofs only [go_sem, ↓reduceIte, Nat.reduceEqDiff, Nat.reduceLT, Nat.reduceLeDiff, Nat.reduceAdd, Nat.reduceMul, Nat.reduceSub, reduceCtorEq, Nat.reduceMod, Nat.reduceBEq, Int.reduceBEq, Int.reduceBNe, Int.reduceToNat, b1, f7, f9, f40, hk21]
                rw [f40] at fin
                refine fin _ ?_ ?_ ?_ ?_ ?_ ?_ ?_ ?_ ?_ ?_ <;> simp -implicitDefEqProofs only [go_sem, ↓reduceIte, Nat.reduceEqDiff, Nat.reduceLT, Nat.reduceLeDiff, Nat.reduceAdd, Nat.reduceMul, Nat.reduceSub, reduceCtorEq, Nat.reduceMod, Nat.reduceBEq, Int.reduceBEq, Int.reduceBNe, Int.reduceToNat, f2, f7, f9, f31, f32, f33, f38, f39, Bool.true_and, sameP, b1]
          · have hcc : ¬ (k2 : Int) < l.rows.length := by omega
            simp -implicitDefEqProofs only [go_sem, ↓reduceIte, Nat.reduceEqDiff, Nat.reduceLT, Nat.reduceLeDiff, Nat.reduceAdd, Nat.reduceMul, Nat.reduceSub, reduceCtorEq, Nat.reduceMod, Nat.reduceBEq, Int.reduceBEq, Int.reduceBNe, Int.reduceToNat, hcc]
            refine hQ2 _ _ _ ?_
            rw [List.take_of_length_le (by omega)] at f10
            simp -implicitDefEqProofs only [go_sem, ↓reduceIte, Nat.reduceEqDiff, Nat.reduceLT, Nat.reduceLeDiff, Nat.reduceAdd, Nat.reduceMul, Nat.reduceSub, reduceCtorEq, Nat.reduceMod, Nat.reduceBEq, Int.reduceBEq, Int.reduceBNe, Int.reduceToNat, f7, f9, f10]
            generalize hq : l.rows.all (sameP l at_ (atF l at_).1 y) = q at f10 ⊢
            have fin : (q = false ∨ at_ < y.i) → ∀ e2 : Env, e2 2 = .ip [.int .i64 l.i, .int .i64 l.t, .sl .no 3 (encL l.rows)] 0 → e2 7 = .int .i64 at_ → e2 31 = .sl .no 3 (encL l.rows) → e2 32 = .int .i64 l.rows.length → e2 33 = .int .i64 ((k + 1 : Nat) : Int) → loopK J M (l.rows.length - iv (e 33)) Q' .normal e2 S2 := by
              intro hno e2 g2 g7 g31 g32 g33
              refine vnext hJ hM S2 (fun _ _ h => h) ⟨rfl, k + 1, hlt, g2, g7, g31, g32, g33, fun j e0 hj he => ?_⟩ ?_
              · by_cases hjk : j = k
                · subst hjk
                  rw [hy] at he
                  injection he with he
                  subst he
                  rw [hq]
                  exact hno
                · exact hn j e0 (by omega) he
              · rw [g33, e33]
                simp only [iv_int, Int.toNat_natCast]
                omega
            rw [e33] at fin
            cases q
            · simp -implicitDefEqProofs only [go_sem, ↓reduceIte, Nat.reduceEqDiff, Nat.reduceLT, Nat.reduceLeDiff, Nat.reduceAdd, Nat.reduceMul, Nat.reduceSub, reduceCtorEq, Nat.reduceMod, Nat.reduceBEq, Int.reduceBEq, Int.reduceBNe, Int.reduceToNat, f33, hk1]
              refine fin (.inl rfl) _ ?_ ?_ ?_ ?_ ?_ <;> simp -implicitDefEqProofs only [go_sem, ↓reduceIte, Nat.reduceEqDiff, Nat.reduceLT, Nat.reduceLeDiff, Nat.reduceAdd, Nat.reduceMul, Nat.reduceSub, reduceCtorEq, Nat.reduceMod, Nat.reduceBEq, Int.reduceBEq, Int.reduceBNe, Int.reduceToNat, f2, f7, f31, f32]
            · by_cases b1 : y.i ≤ at_
              · simp -implicitDefEqProofs only [go_sem, ↓reduceIte, Nat.reduceEqDiff, Nat.reduceLT, Nat.reduceLeDiff, Nat.reduceAdd, Nat.reduceMul, Nat.reduceSub, reduceCtorEq, Nat.reduceMod, Nat.reduceBEq, Int.reduceBEq, Int.reduceBNe, Int.reduceToNat, b1, f7, f9]
                refine hQ _ _ _ ?_
                simp -implicitDefEqProofs only [go_sem, ↓reduceIte, Nat.reduceEqDiff, Nat.reduceLT, Nat.reduceLeDiff, Nat.reduceAdd, Nat.reduceMul, Nat.reduceSub, reduceCtorEq, Nat.reduceMod, Nat.reduceBEq, Int.reduceBEq, Int.reduceBNe, Int.reduceToNat]
                rw [hfound hy b1 hq hn] at hK
                exact ⟨S2, fun _ _ h => h, hK⟩
              · simp -implicitDefEqProofs only [go_sem, ↓reduceIte, Nat.reduceEqDiff, Nat.reduceLT, Nat.reduceLeDiff, Nat.reduceAdd, Nat.reduceMul, Nat.reduceSub, reduceCtorEq, Nat.reduceMod, Nat.reduceBEq, Int.reduceBEq, Int.reduceBNe, Int.reduceToNat, b1, f7, f9, f33, hk1]
                refine fin (.inr (by omega)) _ ?_ ?_ ?_ ?_ ?_ <;> simp -implicitDefEqProofs only [go_sem, ↓reduceIte, Nat.reduceEqDiff, Nat.reduceLT, Nat.reduceLeDiff, Nat.reduceAdd, Nat.reduceMul, Nat.reduceSub, reduceCtorEq, Nat.reduceMod, Nat.reduceBEq, Int.reduceBEq, Int.reduceBNe, Int.reduceToNat, f2, f7, f31, f32]
      · have hcc : ¬ (k : Int) < l.rows.length := by omega
        simp -implicitDefEqProofs only [go_sem, ↓reduceIte, Nat.reduceEqDiff, Nat.reduceLT, Nat.reduceLeDiff, Nat.reduceAdd, Nat.reduceMul, Nat.reduceSub, reduceCtorEq, Nat.reduceMod, Nat.reduceBEq, Int.reduceBEq, Int.reduceBNe, Int.reduceToNat, hcc]
        refine hQ _ _ _ ?_
        simp -implicitDefEqProofs only [go_sem, ↓reduceIte, Nat.reduceEqDiff, Nat.reduceLT, Nat.reduceLeDiff, Nat.reduceAdd, Nat.reduceMul, Nat.reduceSub, reduceCtorEq, Nat.reduceMod, Nat.reduceBEq, Int.reduceBEq, Int.reduceBNe, Int.reduceToNat, e7]
        rw [hend (fun j e0 he => hn j e0 (by have := (List.getElem?_eq_some_iff.1 he).1; omega) he)] at hK
        exact ⟨S', fun _ _ h => h, hK⟩

theorem hints_spec (l : Lg) (x t : Int) (hx : InR x) (ht : InR t) (hf : FineL l.rows) (S : Store) : PRet Try.prog 8 [encG l, .int .i64 x, .int .i64 t] S (.bool true) := by
  intro K hK
  refine pcalls_of (C := C) (fun _ => false) (fun d => d == 3) Try.func8 rfl rfl (by simp [Try.f8]) ?_
  simp -implicitDefEqProofs only [go_sem, ↓reduceIte, Nat.reduceEqDiff, Nat.reduceLT, Nat.reduceLeDiff, Nat.reduceAdd, Nat.reduceMul, Nat.reduceSub, reduceCtorEq, Nat.reduceMod, Nat.reduceBEq, Int.reduceBEq, Int.reduceBNe, Int.reduceToNat, Try.f8, encG]
  intro id hid
  refine light_spec [l.rows] (by simp) _ _ ?_
  cases h1 : lightF 0 [l.rows]
  · simp -implicitDefEqProofs only [go_sem, ↓reduceIte, Nat.reduceEqDiff, Nat.reduceLT, Nat.reduceLeDiff, Nat.reduceAdd, Nat.reduceMul, Nat.reduceSub, reduceCtorEq, Nat.reduceMod, Nat.reduceBEq, Int.reduceBEq, Int.reduceBNe, Int.reduceToNat, h1]
    refine awake_spec _ _ ?_
    simp -implicitDefEqProofs only [go_sem, ↓reduceIte, Nat.reduceEqDiff, Nat.reduceLT, Nat.reduceLeDiff, Nat.reduceAdd, Nat.reduceMul, Nat.reduceSub, reduceCtorEq, Nat.reduceMod, Nat.reduceBEq, Int.reduceBEq, Int.reduceBNe, Int.reduceToNat]
    exact ⟨S, set_drop hid (fun _ _ h => h), hK⟩
  · have hll : l.rows.length ≤ 200 := light_len _ _ h1 _ (by simp)
    have hfit : Fit l := by unfold Fit; omega
    simp -implicitDefEqProofs only [go_sem, ↓reduceIte, Nat.reduceEqDiff, Nat.reduceLT, Nat.reduceLeDiff, Nat.reduceAdd, Nat.reduceMul, Nat.reduceSub, reduceCtorEq, Nat.reduceMod, Nat.reduceBEq, Int.reduceBEq, Int.reduceBNe, Int.reduceToNat, h1]
    refine both_spec l (by omega) hf _ _ ?_
    simp -implicitDefEqProofs only [go_sem, ↓reduceIte, Nat.reduceEqDiff, Nat.reduceLT, Nat.reduceLeDiff, Nat.reduceAdd, Nat.reduceMul, Nat.reduceSub, reduceCtorEq, Nat.reduceMod, Nat.reduceBEq, Int.reduceBEq, Int.reduceBNe, Int.reduceToNat, encG]
    refine vwp_draw (by decide +kernel) ?_
    simp -implicitDefEqProofs only [go_sem, ↓reduceIte, Nat.reduceEqDiff, Nat.reduceLT, Nat.reduceLeDiff, Nat.reduceAdd, Nat.reduceMul, Nat.reduceSub, reduceCtorEq, Nat.reduceMod, Nat.reduceBEq, Int.reduceBEq, Int.reduceBNe, Int.reduceToNat]
    refine q_call _ (by simp -implicitDefEqProofs only [go_sem, ↓reduceIte, Nat.reduceEqDiff, Nat.reduceLT, Nat.reduceLeDiff, Nat.reduceAdd, Nat.reduceMul, Nat.reduceSub, reduceCtorEq, Nat.reduceMod, Nat.reduceBEq, Int.reduceBEq, Int.reduceBNe, Int.reduceToNat]; exact Hint_spec l x hx hfit _) (by decide) rfl ?_
    simp -implicitDefEqProofs only [go_sem, ↓reduceIte, Nat.reduceEqDiff, Nat.reduceLT, Nat.reduceLeDiff, Nat.reduceAdd, Nat.reduceMul, Nat.reduceSub, reduceCtorEq, Nat.reduceMod, Nat.reduceBEq, Int.reduceBEq, Int.reduceBNe, Int.reduceToNat]
    refine q_call _ (by simp -implicitDefEqProofs only [go_sem, ↓reduceIte, Nat.reduceEqDiff, Nat.reduceLT, Nat.reduceLeDiff, Nat.reduceAdd, Nat.reduceMul, Nat.reduceSub, reduceCtorEq, Nat.reduceMod, Nat.reduceBEq, Int.reduceBEq, Int.reduceBNe, Int.reduceToNat]; exact Fresh_spec l x t hfit _) (by decide) rfl ?_
    simp -implicitDefEqProofs only [go_sem, ↓reduceIte, Nat.reduceEqDiff, Nat.reduceLT, Nat.reduceLeDiff, Nat.reduceAdd, Nat.reduceMul, Nat.reduceSub, reduceCtorEq, Nat.reduceMod, Nat.reduceBEq, Int.reduceBEq, Int.reduceBNe, Int.reduceToNat]
    refine q_call _ (by simp -implicitDefEqProofs only [go_sem, ↓reduceIte, Nat.reduceEqDiff, Nat.reduceLT, Nat.reduceLeDiff, Nat.reduceAdd, Nat.reduceMul, Nat.reduceSub, reduceCtorEq, Nat.reduceMod, Nat.reduceBEq, Int.reduceBEq, Int.reduceBNe, Int.reduceToNat]; exact Cut_spec l x t hx (by omega) _) (by decide) rfl ?_
    simp -implicitDefEqProofs only [go_sem, ↓reduceIte, Nat.reduceEqDiff, Nat.reduceLT, Nat.reduceLeDiff, Nat.reduceAdd, Nat.reduceMul, Nat.reduceSub, reduceCtorEq, Nat.reduceMod, Nat.reduceBEq, Int.reduceBEq, Int.reduceBNe, Int.reduceToNat, encG]
    cases hc : chk l
    · have h2 : freshF l x t = false := by unfold freshF; rw [hc]; rfl
      have h3 : cutF l x t = ⟨x, t, []⟩ := by unfold cutF; rw [hc]; rfl
      rw [h2, h3]
      simp -implicitDefEqProofs only [go_sem, ↓reduceIte, Nat.reduceEqDiff, Nat.reduceLT, Nat.reduceLeDiff, Nat.reduceAdd, Nat.reduceMul, Nat.reduceSub, reduceCtorEq, Nat.reduceMod, Nat.reduceBEq, Int.reduceBEq, Int.reduceBNe, Int.reduceToNat, hc]
      refine awake_spec _ _ ?_
      simp -implicitDefEqProofs only [go_sem, ↓reduceIte, Nat.reduceEqDiff, Nat.reduceLT, Nat.reduceLeDiff, Nat.reduceAdd, Nat.reduceMul, Nat.reduceSub, reduceCtorEq, Nat.reduceMod, Nat.reduceBEq, Int.reduceBEq, Int.reduceBNe, Int.reduceToNat]
      exact ⟨S, set_drop hid (fun _ _ h => h), hK⟩
    · simp -implicitDefEqProofs only [go_sem, ↓reduceIte, Nat.reduceEqDiff, Nat.reduceLT, Nat.reduceLeDiff, Nat.reduceAdd, Nat.reduceMul, Nat.reduceSub, reduceCtorEq, Nat.reduceMod, Nat.reduceBEq, Int.reduceBEq, Int.reduceBNe, Int.reduceToNat, hc]
      refine refCut_spec l x t hc (by omega) _ _ ?_
      simp -implicitDefEqProofs only [go_sem, ↓reduceIte, Nat.reduceEqDiff, Nat.reduceLT, Nat.reduceLeDiff, Nat.reduceAdd, Nat.reduceMul, Nat.reduceSub, reduceCtorEq, Nat.reduceMod, Nat.reduceBEq, Int.reduceBEq, Int.reduceBNe, Int.reduceToNat, encG]
      refine refHint_spec l x hx hc (by omega) _ _ ?_
      simp -implicitDefEqProofs only [go_sem, ↓reduceIte, Nat.reduceEqDiff, Nat.reduceLT, Nat.reduceLeDiff, Nat.reduceAdd, Nat.reduceMul, Nat.reduceSub, reduceCtorEq, Nat.reduceMod, Nat.reduceBEq, Int.reduceBEq, Int.reduceBNe, Int.reduceToNat]
      refine refFresh_spec l x t hc (by omega) _ _ ?_
      simp -implicitDefEqProofs only [go_sem, ↓reduceIte, Nat.reduceEqDiff, Nat.reduceLT, Nat.reduceLeDiff, Nat.reduceAdd, Nat.reduceMul, Nat.reduceSub, reduceCtorEq, Nat.reduceMod, Nat.reduceBEq, Int.reduceBEq, Int.reduceBNe, Int.reduceToNat]
      have hcl : (cutF l x t).rows.length ≤ 100000 := by
        unfold cutF
        split
        · simp only [List.length_drop]; omega
        · simp
      refine Same_spec _ _ hcl _ _ ?_
      rw [sameL_refl]
      simp -implicitDefEqProofs only [go_sem, ↓reduceIte, Nat.reduceEqDiff, Nat.reduceLT, Nat.reduceLeDiff, Nat.reduceAdd, Nat.reduceMul, Nat.reduceSub, reduceCtorEq, Nat.reduceMod, Nat.reduceBEq, Int.reduceBEq, Int.reduceBNe, Int.reduceToNat]
      refine awake_spec _ _ ?_
      simp -implicitDefEqProofs only [go_sem, ↓reduceIte, Nat.reduceEqDiff, Nat.reduceLT, Nat.reduceLeDiff, Nat.reduceAdd, Nat.reduceMul, Nat.reduceSub, reduceCtorEq, Nat.reduceMod, Nat.reduceBEq, Int.reduceBEq, Int.reduceBNe, Int.reduceToNat]
      exact ⟨S, set_drop hid (fun _ _ h => h), hK⟩
end Go.Proofs.Ytjdfajibflodbaa.V
