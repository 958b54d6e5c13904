/- Rows: the term at an index, the end, and what hangs on them. -/
import Derived.Test.YtjdfajibflodbaaRC
set_option linter.unusedVariables false
set_option linter.unusedSimpArgs false
namespace Go.Proofs.Ytjdfajibflodbaa.V
open Go Go.VL

theorem chk_iff {l : Lg} (h : chk l = true) : 0 ≤ l.i ∧ l.i ≤ 1099511627776 ∧ 0 ≤ l.t ∧ l.t ≤ 1099511627776 ∧ rise l.i l.t l.rows = true := by
  simp only [chk, Bool.and_eq_true] at h
  obtain ⟨⟨h1, h2⟩, h3⟩ := h
  have := within_iff.1 h1
  have := within_iff.1 h2
  exact ⟨by omega, by omega, by omega, by omega, h3⟩

theorem rise_len {l : List Ent} {i t : Int} (h : rise i t l = true) (h0 : i ≤ 1099511627776) (k : Nat) (hk : k < l.length) : i + k + 1 ≤ 1099511627776 := by
  obtain ⟨h1, h2, _⟩ := rise_get l i t h k _ (List.getElem?_eq_getElem hk)
  have := within_iff.1 h2
  omega

def atF (l : Lg) (x : Int) : Int × Bool :=
  if x = l.i then (l.t, true) else if x < l.i then (0, false) else match l.rows[(x - l.i - 1).toNat]? with
    | some e => (e.t, true)
    | none => (0, false)

theorem at_spec (l : Lg) (x : Int) (hx1 : -9223372036854775808 ≤ x) (hx2 : x ≤ 9223372036854775807) (hl : Fit l) (hc : chk l = true) (S : Store) : PRet Try.prog 39 [encG l, .int .i64 x] S (.tup [.int .i64 (atF l x).1, .bool (atF l x).2]) := by
  intro K hK
  refine pcalls_of (C := C) (fun _ => false) (fun _ => false) Try.func39 rfl rfl (by simp [Try.f39]) ?_
  obtain ⟨c1, c2, c3, c4, hr⟩ := chk_iff hc
  unfold Fit at hl
  simp -implicitDefEqProofs only [go_sem, ↓reduceIte, Nat.reduceEqDiff, Nat.reduceLT, Nat.reduceLeDiff, Nat.reduceAdd, Nat.reduceMul, Nat.reduceSub, reduceCtorEq, Nat.reduceMod, Nat.reduceBEq, Int.reduceBEq, Int.reduceBNe, Int.reduceToNat, Try.f39, encG]
  unfold atF at hK
  by_cases h1 : x = l.i
  · rw [if_pos h1] at hK
    have e1 : (x == l.i) = true := by simp [h1]
    simp -implicitDefEqProofs only [go_sem, ↓reduceIte, Nat.reduceEqDiff, Nat.reduceLT, Nat.reduceLeDiff, Nat.reduceAdd, Nat.reduceMul, Nat.reduceSub, reduceCtorEq, Nat.reduceMod, Nat.reduceBEq, Int.reduceBEq, Int.reduceBNe, Int.reduceToNat, e1]
    exact ⟨S, fun _ _ h => h, hK⟩
  · rw [if_neg h1] at hK
    have e1 : (x == l.i) = false := by simp [h1]
    simp -implicitDefEqProofs only [go_sem, ↓reduceIte, Nat.reduceEqDiff, Nat.reduceLT, Nat.reduceLeDiff, Nat.reduceAdd, Nat.reduceMul, Nat.reduceSub, reduceCtorEq, Nat.reduceMod, Nat.reduceBEq, Int.reduceBEq, Int.reduceBNe, Int.reduceToNat, e1]
    by_cases h2 : x < l.i
    · rw [if_pos h2] at hK
      simp -implicitDefEqProofs only [go_sem, ↓reduceIte, Nat.reduceEqDiff, Nat.reduceLT, Nat.reduceLeDiff, Nat.reduceAdd, Nat.reduceMul, Nat.reduceSub, reduceCtorEq, Nat.reduceMod, Nat.reduceBEq, Int.reduceBEq, Int.reduceBNe, Int.reduceToNat, h2]
      exact ⟨S, fun _ _ h => h, hK⟩
    · rw [if_neg h2] at hK
      simp -implicitDefEqProofs only [go_sem, ↓reduceIte, Nat.reduceEqDiff, Nat.reduceLT, Nat.reduceLeDiff, Nat.reduceAdd, Nat.reduceMul, Nat.reduceSub, reduceCtorEq, Nat.reduceMod, Nat.reduceBEq, Int.reduceBEq, Int.reduceBNe, Int.reduceToNat, h2]
      cases h3 : ((l.rows.length : Int) == 0)
      · have b3 : 0 < l.rows.length := by
          have : (l.rows.length : Int) ≠ 0 := by simpa using h3
          omega
        have hw : IntKind.i64.wrap ((l.rows.length : Int) - 1) = ((l.rows.length - 1 : Nat) : Int) := by
          rw [wrap64 (by omega) (by omega)]; omega
        have hin : (0 : Int) ≤ ((l.rows.length - 1 : Nat) : Int) ∧ ((l.rows.length - 1 : Nat) : Int) < l.rows.length := by omega
        obtain ⟨e, he⟩ : ∃ e, l.rows[l.rows.length - 1]? = some e := ⟨_, List.getElem?_eq_getElem (by omega)⟩
        obtain ⟨d1, _⟩ := rise_get _ _ _ hr _ _ he
        simp -implicitDefEqProofs only [go_sem, ↓reduceIte, Nat.reduceEqDiff, Nat.reduceLT, Nat.reduceLeDiff, Nat.reduceAdd, Nat.reduceMul, Nat.reduceSub, reduceCtorEq, Nat.reduceMod, Nat.reduceBEq, Int.reduceBEq, Int.reduceBNe, Int.reduceToNat, h3, hw, hin, getD_encL he, encE]
        have hlast := rise_len hr c2 (l.rows.length - 1) (by omega)
        by_cases h4 : e.i < x
        · simp -implicitDefEqProofs only [go_sem, ↓reduceIte, Nat.reduceEqDiff, Nat.reduceLT, Nat.reduceLeDiff, Nat.reduceAdd, Nat.reduceMul, Nat.reduceSub, reduceCtorEq, Nat.reduceMod, Nat.reduceBEq, Int.reduceBEq, Int.reduceBNe, Int.reduceToNat, h4]
          rw [List.getElem?_eq_none (by omega)] at hK
          exact ⟨S, fun _ _ h => h, hK⟩
        · simp -implicitDefEqProofs only [go_sem, ↓reduceIte, Nat.reduceEqDiff, Nat.reduceLT, Nat.reduceLeDiff, Nat.reduceAdd, Nat.reduceMul, Nat.reduceSub, reduceCtorEq, Nat.reduceMod, Nat.reduceBEq, Int.reduceBEq, Int.reduceBNe, Int.reduceToNat, h4]
          have hw1 : IntKind.i64.wrap (x - l.i) = x - l.i := wrap64 (by omega) (by omega)
          have hw2 : IntKind.i64.wrap (x - l.i - 1) = x - l.i - 1 := wrap64 (by omega) (by omega)
          have hin2 : (0 : Int) ≤ x - l.i - 1 ∧ x - l.i - 1 < l.rows.length := by omega
          obtain ⟨e2, he2⟩ : ∃ e, l.rows[(x - l.i - 1).toNat]? = some e := ⟨_, List.getElem?_eq_getElem (by omega)⟩
          rw [he2] at hK
          simp -implicitDefEqProofs only [go_sem, ↓reduceIte, Nat.reduceEqDiff, Nat.reduceLT, Nat.reduceLeDiff, Nat.reduceAdd, Nat.reduceMul, Nat.reduceSub, reduceCtorEq, Nat.reduceMod, Nat.reduceBEq, Int.reduceBEq, Int.reduceBNe, Int.reduceToNat, hw1, hw2, hin2, getD_encL he2, encE]
          exact ⟨S, fun _ _ h => h, hK⟩
      · have b3 : l.rows = [] := by
          have : (l.rows.length : Int) = 0 := by simpa using h3
          exact List.eq_nil_of_length_eq_zero (by omega)
        simp -implicitDefEqProofs only [go_sem, ↓reduceIte, Nat.reduceEqDiff, Nat.reduceLT, Nat.reduceLeDiff, Nat.reduceAdd, Nat.reduceMul, Nat.reduceSub, reduceCtorEq, Nat.reduceMod, Nat.reduceBEq, Int.reduceBEq, Int.reduceBNe, Int.reduceToNat, h3]
        rw [b3] at hK
        exact ⟨S, fun _ _ h => h, hK⟩

theorem Last_spec (l : Lg) (hl : Fit l) (S : Store) : PRet Try.prog 14 [encG l] S (if chk l then .tup [.int .i64 (lastF l.i l.t l.rows).1, .int .i64 (lastF l.i l.t l.rows).2] else .tup [.int .i64 0, .int .i64 0]) := by
  intro K hK
  refine pcalls_of (C := C) (fun _ => false) (fun _ => false) Try.func14 rfl rfl (by simp [Try.f14]) ?_
  have hG : (encG l).bare = encG l := rfl
  have hP : pcells (encG l) = some [.int .i64 l.i, .int .i64 l.t, .sl .no 3 (encL l.rows)] := rfl
  simp -implicitDefEqProofs only [go_sem, ↓reduceIte, Nat.reduceEqDiff, Nat.reduceLT, Nat.reduceLeDiff, Nat.reduceAdd, Nat.reduceMul, Nat.reduceSub, reduceCtorEq, Nat.reduceMod, Nat.reduceBEq, Int.reduceBEq, Int.reduceBNe, Int.reduceToNat, Try.f14, encG]
  refine check_spec l hl _ _ ?_
  cases h : chk l
  · rw [h] at hK
    simp -implicitDefEqProofs only [go_sem, ↓reduceIte, Nat.reduceEqDiff, Nat.reduceLT, Nat.reduceLeDiff, Nat.reduceAdd, Nat.reduceMul, Nat.reduceSub, reduceCtorEq, Nat.reduceMod, Nat.reduceBEq, Int.reduceBEq, Int.reduceBNe, Int.reduceToNat, chkN_f]
    exact ⟨S, fun _ _ h => h, hK⟩
  · rw [h] at hK
    simp -implicitDefEqProofs only [go_sem, ↓reduceIte, Nat.reduceEqDiff, Nat.reduceLT, Nat.reduceLeDiff, Nat.reduceAdd, Nat.reduceMul, Nat.reduceSub, reduceCtorEq, Nat.reduceMod, Nat.reduceBEq, Int.reduceBEq, Int.reduceBNe, Int.reduceToNat, chkN_t]
    refine last_spec l hl _ _ ?_
    simp -implicitDefEqProofs only [go_sem, ↓reduceIte, Nat.reduceEqDiff, Nat.reduceLT, Nat.reduceLeDiff, Nat.reduceAdd, Nat.reduceMul, Nat.reduceSub, reduceCtorEq, Nat.reduceMod, Nat.reduceBEq, Int.reduceBEq, Int.reduceBNe, Int.reduceToNat]
    exact ⟨S, fun _ _ h => h, hK⟩
end Go.Proofs.Ytjdfajibflodbaa.V
