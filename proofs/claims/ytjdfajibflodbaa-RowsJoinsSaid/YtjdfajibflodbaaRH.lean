/- Rows: hints, who is fresh, what is cut. -/
import Derived.Test.YtjdfajibflodbaaRG
set_option linter.unusedVariables false
set_option linter.unusedSimpArgs false
namespace Go.Proofs.Ytjdfajibflodbaa.V
open Go Go.VL

def InR (x : Int) : Prop := -9223372036854775808 ≤ x ∧ x ≤ 9223372036854775807

theorem lastF_i : ∀ (l : List Ent) (i t : Int), rise i t l = true → (lastF i t l).1 = i + l.length
  | [], i, t, _ => by simp [lastF]
  | e :: l, i, t, h => by
    simp only [rise, Bool.and_eq_true, beq_iff_eq] at h
    rw [lastF, lastF_i l _ _ h.2, h.1.1.1.1.2]
    simp only [List.length_cons]
    omega
theorem lastF_le {l : Lg} (h : chk l = true) : l.i ≤ (lastF l.i l.t l.rows).1 ∧ (lastF l.i l.t l.rows).1 ≤ 1099511627776 := by
  obtain ⟨c1, c2, _, _, hr⟩ := chk_iff h
  rw [lastF_i _ _ _ hr]
  refine ⟨by omega, ?_⟩
  by_cases h0 : l.rows.length = 0
  · omega
  · have := rise_len hr c2 (l.rows.length - 1) (by omega)
    omega

theorem Term_spec (l : Lg) (x : Int) (hx : InR x) (hl : Fit l) (S : Store) : PRet Try.prog 24 [encG l, .int .i64 x] S (if chk l then .tup [.int .i64 (atF l x).1, .bool (atF l x).2] else .tup [.int .i64 0, .bool false]) := by
  intro K hK
  refine pcalls_of (C := C) (fun _ => false) (fun _ => false) Try.func24 rfl rfl (by simp [Try.f24]) ?_
  simp -implicitDefEqProofs only [go_sem, ↓reduceIte, Nat.reduceEqDiff, Nat.reduceLT, Nat.reduceLeDiff, Nat.reduceAdd, Nat.reduceMul, Nat.reduceSub, reduceCtorEq, Nat.reduceMod, Nat.reduceBEq, Int.reduceBEq, Int.reduceBNe, Int.reduceToNat, Try.f24, encG]
  refine check_spec l hl _ _ ?_
  cases h : chk l
  · rw [h] at hK
    simp -implicitDefEqProofs only [go_sem, ↓reduceIte, Nat.reduceEqDiff, Nat.reduceLT, Nat.reduceLeDiff, Nat.reduceAdd, Nat.reduceMul, Nat.reduceSub, reduceCtorEq, Nat.reduceMod, Nat.reduceBEq, Int.reduceBEq, Int.reduceBNe, Int.reduceToNat, chkN_f]
    exact ⟨S, fun _ _ h => h, hK⟩
  · rw [h] at hK
    simp -implicitDefEqProofs only [go_sem, ↓reduceIte, Nat.reduceEqDiff, Nat.reduceLT, Nat.reduceLeDiff, Nat.reduceAdd, Nat.reduceMul, Nat.reduceSub, reduceCtorEq, Nat.reduceMod, Nat.reduceBEq, Int.reduceBEq, Int.reduceBNe, Int.reduceToNat, chkN_t]
    refine at_spec l x hx.1 hx.2 hl h _ _ ?_
    simp -implicitDefEqProofs only [go_sem, ↓reduceIte, Nat.reduceEqDiff, Nat.reduceLT, Nat.reduceLeDiff, Nat.reduceAdd, Nat.reduceMul, Nat.reduceSub, reduceCtorEq, Nat.reduceMod, Nat.reduceBEq, Int.reduceBEq, Int.reduceBNe, Int.reduceToNat]
    exact ⟨S, fun _ _ h => h, hK⟩

def freshF (l : Lg) (x t : Int) : Bool := chk l && (decide ((lastF l.i l.t l.rows).2 < t) || (t == (lastF l.i l.t l.rows).2 && decide ((lastF l.i l.t l.rows).1 ≤ x)))

theorem Fresh_spec (l : Lg) (x t : Int) (hl : Fit l) (S : Store) : PRet Try.prog 23 [encG l, .int .i64 x, .int .i64 t] S (.bool (freshF l x t)) := by
  intro K hK
  refine pcalls_of (C := C) (fun _ => false) (fun _ => false) Try.func23 rfl rfl (by simp [Try.f23]) ?_
  simp -implicitDefEqProofs only [go_sem, ↓reduceIte, Nat.reduceEqDiff, Nat.reduceLT, Nat.reduceLeDiff, Nat.reduceAdd, Nat.reduceMul, Nat.reduceSub, reduceCtorEq, Nat.reduceMod, Nat.reduceBEq, Int.reduceBEq, Int.reduceBNe, Int.reduceToNat, Try.f23, encG]
  refine Last_spec l hl _ _ ?_
  unfold freshF at hK
  cases h : chk l
  · rw [h] at hK
    simp -implicitDefEqProofs only [go_sem, ↓reduceIte, Nat.reduceEqDiff, Nat.reduceLT, Nat.reduceLeDiff, Nat.reduceAdd, Nat.reduceMul, Nat.reduceSub, reduceCtorEq, Nat.reduceMod, Nat.reduceBEq, Int.reduceBEq, Int.reduceBNe, Int.reduceToNat]
    refine check_spec l hl _ _ ?_
    simp -implicitDefEqProofs only [go_sem, ↓reduceIte, Nat.reduceEqDiff, Nat.reduceLT, Nat.reduceLeDiff, Nat.reduceAdd, Nat.reduceMul, Nat.reduceSub, reduceCtorEq, Nat.reduceMod, Nat.reduceBEq, Int.reduceBEq, Int.reduceBNe, Int.reduceToNat, h, chkN_f]
    exact ⟨S, fun _ _ h => h, hK⟩
  · rw [h] at hK
    simp -implicitDefEqProofs only [go_sem, ↓reduceIte, Nat.reduceEqDiff, Nat.reduceLT, Nat.reduceLeDiff, Nat.reduceAdd, Nat.reduceMul, Nat.reduceSub, reduceCtorEq, Nat.reduceMod, Nat.reduceBEq, Int.reduceBEq, Int.reduceBNe, Int.reduceToNat]
    refine check_spec l hl _ _ ?_
    simp -implicitDefEqProofs only [go_sem, ↓reduceIte, Nat.reduceEqDiff, Nat.reduceLT, Nat.reduceLeDiff, Nat.reduceAdd, Nat.reduceMul, Nat.reduceSub, reduceCtorEq, Nat.reduceMod, Nat.reduceBEq, Int.reduceBEq, Int.reduceBNe, Int.reduceToNat, h, chkN_t]
    by_cases h1 : (lastF l.i l.t l.rows).2 < t
    · rw [decide_eq_true h1] at hK
      simp -implicitDefEqProofs only [go_sem, ↓reduceIte, Nat.reduceEqDiff, Nat.reduceLT, Nat.reduceLeDiff, Nat.reduceAdd, Nat.reduceMul, Nat.reduceSub, reduceCtorEq, Nat.reduceMod, Nat.reduceBEq, Int.reduceBEq, Int.reduceBNe, Int.reduceToNat, h1]
      exact ⟨S, fun _ _ h => h, hK⟩
    · rw [decide_eq_false h1] at hK
      simp -implicitDefEqProofs only [go_sem, ↓reduceIte, Nat.reduceEqDiff, Nat.reduceLT, Nat.reduceLeDiff, Nat.reduceAdd, Nat.reduceMul, Nat.reduceSub, reduceCtorEq, Nat.reduceMod, Nat.reduceBEq, Int.reduceBEq, Int.reduceBNe, Int.reduceToNat, h1]
      cases h2 : t == (lastF l.i l.t l.rows).2
      · rw [h2] at hK
        simp -implicitDefEqProofs only [go_sem, ↓reduceIte, Nat.reduceEqDiff, Nat.reduceLT, Nat.reduceLeDiff, Nat.reduceAdd, Nat.reduceMul, Nat.reduceSub, reduceCtorEq, Nat.reduceMod, Nat.reduceBEq, Int.reduceBEq, Int.reduceBNe, Int.reduceToNat, h2]
        exact ⟨S, fun _ _ h => h, hK⟩
      · rw [h2] at hK
        simp -implicitDefEqProofs only [go_sem, ↓reduceIte, Nat.reduceEqDiff, Nat.reduceLT, Nat.reduceLeDiff, Nat.reduceAdd, Nat.reduceMul, Nat.reduceSub, reduceCtorEq, Nat.reduceMod, Nat.reduceBEq, Int.reduceBEq, Int.reduceBNe, Int.reduceToNat, h2]
        exact ⟨S, fun _ _ h => h, hK⟩

def hintDown (l : Lg) (t : Int) : Nat → Int
  | 0 => l.i + 1
  | k + 1 => if (atF l (l.i + k + 1)).1 != t then l.i + k + 2 else hintDown l t k

def hintF (l : Lg) (x : Int) : Int :=
  if (lastF l.i l.t l.rows).1 < x then (lastF l.i l.t l.rows).1 + 1 else hintDown l (atF l (max x l.i)).1 (max x (l.i + 1) - l.i - 1).toNat

theorem Hint_spec (l : Lg) (x : Int) (hx : InR x) (hl : Fit l) (S : Store) : PRet Try.prog 22 [encG l, .int .i64 x] S (.int .i64 (if chk l then hintF l x else 0)) := by
  intro K hK
  refine pcalls_of (C := C) (fun _ => false) (fun _ => false) Try.func22 rfl rfl (by simp [Try.f22]) ?_
  unfold InR at hx
  simp -implicitDefEqProofs only [go_sem, ↓reduceIte, Nat.reduceEqDiff, Nat.reduceLT, Nat.reduceLeDiff, Nat.reduceAdd, Nat.reduceMul, Nat.reduceSub, reduceCtorEq, Nat.reduceMod, Nat.reduceBEq, Int.reduceBEq, Int.reduceBNe, Int.reduceToNat, Try.f22, encG]
  refine check_spec l hl _ _ ?_
  cases h : chk l
  · rw [h] at hK
    simp -implicitDefEqProofs only [go_sem, ↓reduceIte, Nat.reduceEqDiff, Nat.reduceLT, Nat.reduceLeDiff, Nat.reduceAdd, Nat.reduceMul, Nat.reduceSub, reduceCtorEq, Nat.reduceMod, Nat.reduceBEq, Int.reduceBEq, Int.reduceBNe, Int.reduceToNat, chkN_f]
    exact ⟨S, fun _ _ h => h, hK⟩
  · rw [h] at hK
    obtain ⟨c1, c2, _, _, hr⟩ := chk_iff h
    have hb := lastF_le h
    simp -implicitDefEqProofs only [go_sem, ↓reduceIte, Nat.reduceEqDiff, Nat.reduceLT, Nat.reduceLeDiff, Nat.reduceAdd, Nat.reduceMul, Nat.reduceSub, reduceCtorEq, Nat.reduceMod, Nat.reduceBEq, Int.reduceBEq, Int.reduceBNe, Int.reduceToNat, chkN_t]
    refine last_spec l hl _ _ ?_
    simp -implicitDefEqProofs only [go_sem, ↓reduceIte, Nat.reduceEqDiff, Nat.reduceLT, Nat.reduceLeDiff, Nat.reduceAdd, Nat.reduceMul, Nat.reduceSub, reduceCtorEq, Nat.reduceMod, Nat.reduceBEq, Int.reduceBEq, Int.reduceBNe, Int.reduceToNat]
    simp only [if_true, hintF] at hK
    by_cases h1 : (lastF l.i l.t l.rows).1 < x
    · rw [if_pos h1] at hK
      have hw : IntKind.i64.wrap ((lastF l.i l.t l.rows).1 + 1) = (lastF l.i l.t l.rows).1 + 1 := wrap64 (by omega) (by omega)
      simp -implicitDefEqProofs only [go_sem, ↓reduceIte, Nat.reduceEqDiff, Nat.reduceLT, Nat.reduceLeDiff, Nat.reduceAdd, Nat.reduceMul, Nat.reduceSub, reduceCtorEq, Nat.reduceMod, Nat.reduceBEq, Int.reduceBEq, Int.reduceBNe, Int.reduceToNat, h1, hw]
      exact ⟨S, fun _ _ h => h, hK⟩
    · rw [if_neg h1] at hK
      have m1 : (if l.i > x then l.i else x) = max x l.i := by split <;> omega
      simp -implicitDefEqProofs only [go_sem, ↓reduceIte, Nat.reduceEqDiff, Nat.reduceLT, Nat.reduceLeDiff, Nat.reduceAdd, Nat.reduceMul, Nat.reduceSub, reduceCtorEq, Nat.reduceMod, Nat.reduceBEq, Int.reduceBEq, Int.reduceBNe, Int.reduceToNat, h1, m1]
      refine at_spec l _ (by omega) (by omega) hl h _ _ ?_
      have hw : IntKind.i64.wrap (l.i + 1) = l.i + 1 := wrap64 (by omega) (by omega)
      have m2 : (if l.i + 1 > x then l.i + 1 else x) = max x (l.i + 1) := by split <;> omega
      simp -implicitDefEqProofs only [go_sem, ↓reduceIte, Nat.reduceEqDiff, Nat.reduceLT, Nat.reduceLeDiff, Nat.reduceAdd, Nat.reduceMul, Nat.reduceSub, reduceCtorEq, Nat.reduceMod, Nat.reduceBEq, Int.reduceBEq, Int.reduceBNe, Int.reduceToNat, hw, m2]
      refine vwp_loop (fun e S' => S' = S ∧ ∃ k : Nat, l.i + k + 1 ≤ 1099511627777 ∧ e 1 = .int .i64 (l.i + k + 1) ∧ e 2 = .ip [.int .i64 l.i, .int .i64 l.t, .sl .no 3 (encL l.rows)] 0 ∧ e 7 = .int .i64 (atF l (max x l.i)).1 ∧
        hintDown l (atF l (max x l.i)).1 (max x (l.i + 1) - l.i - 1).toNat = hintDown l (atF l (max x l.i)).1 k) (fun e _ => match e 1 with | .int _ k => (k - l.i).toNat | _ => 0) ?_ ?_
      · refine ⟨rfl, (max x (l.i + 1) - l.i - 1).toNat, by omega, ?_, ?_, ?_, rfl⟩
        · simp -implicitDefEqProofs only [go_sem, ↓reduceIte, Nat.reduceEqDiff, Nat.reduceLT, Nat.reduceLeDiff, Nat.reduceAdd, Nat.reduceMul, Nat.reduceSub, reduceCtorEq, Nat.reduceMod, Nat.reduceBEq, Int.reduceBEq, Int.reduceBNe, Int.reduceToNat]
          have e1 : max x (l.i + 1) = l.i + ((max x (l.i + 1) - l.i - 1).toNat : Int) + 1 := by omega
          rw [← e1]
        · simp -implicitDefEqProofs only [go_sem, ↓reduceIte, Nat.reduceEqDiff, Nat.reduceLT, Nat.reduceLeDiff, Nat.reduceAdd, Nat.reduceMul, Nat.reduceSub, reduceCtorEq, Nat.reduceMod, Nat.reduceBEq, Int.reduceBEq, Int.reduceBNe, Int.reduceToNat]
        · simp -implicitDefEqProofs only [go_sem, ↓reduceIte, Nat.reduceEqDiff, Nat.reduceLT, Nat.reduceLeDiff, Nat.reduceAdd, Nat.reduceMul, Nat.reduceSub, reduceCtorEq, Nat.reduceMod, Nat.reduceBEq, Int.reduceBEq, Int.reduceBNe, Int.reduceToNat]
      · rintro e S' ⟨rfl, k, hk, e1, e2, e7, hh⟩
        have w1 : IntKind.i64.wrap (l.i + k + 1 - 1) = l.i + k := by rw [wrap64 (by omega) (by omega)]; omega
        simp -implicitDefEqProofs only [go_sem, ↓reduceIte, Nat.reduceEqDiff, Nat.reduceLT, Nat.reduceLeDiff, Nat.reduceAdd, Nat.reduceMul, Nat.reduceSub, reduceCtorEq, Nat.reduceMod, Nat.reduceBEq, Int.reduceBEq, Int.reduceBNe, Int.reduceToNat, e1, e2, w1]
        cases k with
        | zero =>
          have n1 : ¬ l.i < l.i + ((0 : Nat) : Int) := by omega
          simp -implicitDefEqProofs only [go_sem, ↓reduceIte, Nat.reduceEqDiff, Nat.reduceLT, Nat.reduceLeDiff, Nat.reduceAdd, Nat.reduceMul, Nat.reduceSub, reduceCtorEq, Nat.reduceMod, Nat.reduceBEq, Int.reduceBEq, Int.reduceBNe, Int.reduceToNat, n1, e1]
          rw [hh] at hK
          simp only [hintDown] at hK
          have e3 : l.i + ((0 : Nat) : Int) + 1 = l.i + 1 := by omega
          rw [e3]
          exact ⟨S', fun _ _ h => h, hK⟩
        | succ k =>
          have n1 : l.i < l.i + ((k + 1 : Nat) : Int) := by omega
          simp -implicitDefEqProofs only [go_sem, ↓reduceIte, Nat.reduceEqDiff, Nat.reduceLT, Nat.reduceLeDiff, Nat.reduceAdd, Nat.reduceMul, Nat.reduceSub, reduceCtorEq, Nat.reduceMod, Nat.reduceBEq, Int.reduceBEq, Int.reduceBNe, Int.reduceToNat, n1, e1, e2, w1]
          refine at_spec l _ (by omega) (by omega) hl h _ _ ?_
          have e3 : l.i + ((k + 1 : Nat) : Int) = l.i + k + 1 := by omega
          rw [e3]
          cases h2 : (atF l (l.i + k + 1)).1 != (atF l (max x l.i)).1
          · simp -implicitDefEqProofs only [go_sem, ↓reduceIte, Nat.reduceEqDiff, Nat.reduceLT, Nat.reduceLeDiff, Nat.reduceAdd, Nat.reduceMul, Nat.reduceSub, reduceCtorEq, Nat.reduceMod, Nat.reduceBEq, Int.reduceBEq, Int.reduceBNe, Int.reduceToNat, e7, h2, e1]
            have w2 : IntKind.i64.wrap (l.i + ((k + 1 : Nat) : Int) + 1 - 1) = l.i + k + 1 := by rw [wrap64 (by omega) (by omega)]; omega
            simp -implicitDefEqProofs only [go_sem, ↓reduceIte, Nat.reduceEqDiff, Nat.reduceLT, Nat.reduceLeDiff, Nat.reduceAdd, Nat.reduceMul, Nat.reduceSub, reduceCtorEq, Nat.reduceMod, Nat.reduceBEq, Int.reduceBEq, Int.reduceBNe, Int.reduceToNat, w2]
            refine ⟨S', fun _ _ h => h, ⟨rfl, k, by omega, ?_, ?_, ?_, ?_⟩, ?_⟩
            · simp -implicitDefEqProofs only [go_sem, ↓reduceIte, Nat.reduceEqDiff, Nat.reduceLT, Nat.reduceLeDiff, Nat.reduceAdd, Nat.reduceMul, Nat.reduceSub, reduceCtorEq, Nat.reduceMod, Nat.reduceBEq, Int.reduceBEq, Int.reduceBNe, Int.reduceToNat]
            · simp -implicitDefEqProofs only [go_sem, ↓reduceIte, Nat.reduceEqDiff, Nat.reduceLT, Nat.reduceLeDiff, Nat.reduceAdd, Nat.reduceMul, Nat.reduceSub, reduceCtorEq, Nat.reduceMod, Nat.reduceBEq, Int.reduceBEq, Int.reduceBNe, Int.reduceToNat, e2]
            · simp -implicitDefEqProofs only [go_sem, ↓reduceIte, Nat.reduceEqDiff, Nat.reduceLT, Nat.reduceLeDiff, Nat.reduceAdd, Nat.reduceMul, Nat.reduceSub, reduceCtorEq, Nat.reduceMod, Nat.reduceBEq, Int.reduceBEq, Int.reduceBNe, Int.reduceToNat, e7]
            · rw [hh, hintDown, h2]
              rfl
            · simp -implicitDefEqProofs only [go_sem, ↓reduceIte, Nat.reduceEqDiff, Nat.reduceLT, Nat.reduceLeDiff, Nat.reduceAdd, Nat.reduceMul, Nat.reduceSub, reduceCtorEq, Nat.reduceMod, Nat.reduceBEq, Int.reduceBEq, Int.reduceBNe, Int.reduceToNat]
              omega
          · simp -implicitDefEqProofs only [go_sem, ↓reduceIte, Nat.reduceEqDiff, Nat.reduceLT, Nat.reduceLeDiff, Nat.reduceAdd, Nat.reduceMul, Nat.reduceSub, reduceCtorEq, Nat.reduceMod, Nat.reduceBEq, Int.reduceBEq, Int.reduceBNe, Int.reduceToNat, e7, h2, e1]
            rw [hh, hintDown, h2] at hK
            have e4 : l.i + ((k + 1 : Nat) : Int) + 1 = l.i + k + 2 := by omega
            rw [e4]
            exact ⟨S', fun _ _ h => h, hK⟩
end Go.Proofs.Ytjdfajibflodbaa.V
