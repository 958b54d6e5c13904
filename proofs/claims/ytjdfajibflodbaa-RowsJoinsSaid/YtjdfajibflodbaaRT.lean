/- Rows: copies of one's own, and the document's log. -/
import Derived.Test.YtjdfajibflodbaaRS
import Derived.Test.YtjdfajibflodbaaRM
import Derived.Test.YtjdfajibflodbaaVL24
set_option linter.unusedVariables false
set_option linter.unusedSimpArgs false
namespace Go.Proofs.Ytjdfajibflodbaa.V
open Go Go.VL

/-! ### the document's checks -/
theorem near_spec (n lo : Int) (S : Store) : PRet Try.prog 34 [.int .i64 n, .int .i64 lo] S (.bool (within n lo)) := by
  intro K hK
  refine pcalls_of (C := C) (fun _ => false) (fun _ => false) Try.func34 rfl rfl (by simp [Try.f34]) ?_
  unfold within at hK
  cases h1 : decide (lo ≤ n) <;> rw [h1] at hK <;> (simp -implicitDefEqProofs only [go_sem, ↓reduceIte, Nat.reduceEqDiff, Nat.reduceLT, Nat.reduceLeDiff, Nat.reduceAdd, Nat.reduceMul, Nat.reduceSub, reduceCtorEq, Nat.reduceMod, Nat.reduceBEq, Int.reduceBEq, Int.reduceBNe, Int.reduceToNat, Try.f34, h1]; exact ⟨S, fun _ _ h => h, hK⟩)

def prevI (x : Int) (l : List Ent) : Nat → Int
  | 0 => x
  | k + 1 => match l[k]? with | some e => e.i | none => x
def prevT (x : Int) (l : List Ent) : Nat → Int
  | 0 => x
  | k + 1 => match l[k]? with | some e => e.t | none => x

theorem On_spec (x t : Int) (l : List Ent) (hl : l.length ≤ 100000) (hf : FineL l) (S : Store) : PRet Try.prog 35 [.int .i64 x, .int .i64 t, .sl .no 3 (encL l)] S (.bool (rise x t l)) := by
  intro K hK
  refine pcalls_of (C := C) (fun _ => false) (fun d => d == 8) Try.func35 rfl rfl (by simp [Try.f35]) ?_
  simp -implicitDefEqProofs only [go_sem, ↓reduceIte, Nat.reduceEqDiff, Nat.reduceLT, Nat.reduceLeDiff, Nat.reduceAdd, Nat.reduceMul, Nat.reduceSub, reduceCtorEq, Nat.reduceMod, Nat.reduceBEq, Int.reduceBEq, Int.reduceBNe, Int.reduceToNat, Try.f35]
  refine vwp_loop (fun e S' => S' = S ∧ ∃ k : Nat, k ≤ l.length ∧ (∃ a, e 0 = .int .i64 a ∧ (k = 0 → a = x)) ∧ (∃ b, e 1 = .int .i64 b ∧ (k = 0 → b = t)) ∧ e 2 = .sl .no 3 (encL l) ∧ e 9 = .sl .no 3 (encL l) ∧ e 10 = .int .i64 l.length ∧ e 11 = .int .i64 k ∧ rise x t l = rise (prevI x l k) (prevT t l k) (l.drop k)) (fun e _ => match e 11 with | .int _ k => l.length - k.toNat | _ => 0) ?_ ?_
  · exact ⟨rfl, 0, Nat.zero_le _, ⟨x, rfl, fun _ => rfl⟩, ⟨t, rfl, fun _ => rfl⟩, rfl, rfl, rfl, rfl, rfl⟩
  · rintro e S' ⟨rfl, k, hk, ⟨a, h0, ha⟩, ⟨b, h1, hb⟩, h2, h9, h10, h11, hr⟩
    simp -implicitDefEqProofs only [go_sem, ↓reduceIte, Nat.reduceEqDiff, Nat.reduceLT, Nat.reduceLeDiff, Nat.reduceAdd, Nat.reduceMul, Nat.reduceSub, reduceCtorEq, Nat.reduceMod, Nat.reduceBEq, Int.reduceBEq, Int.reduceBNe, Int.reduceToNat, h10, h11]
    by_cases hlt : k < l.length
    · obtain ⟨y, hy⟩ : ∃ y, l[k]? = some y := ⟨_, List.getElem?_eq_getElem hlt⟩
      have hd : l.drop k = y :: l.drop (k + 1) := by
        rw [List.drop_eq_getElem_cons hlt]
        rw [List.getElem?_eq_getElem hlt] at hy
        injection hy with hy
        rw [hy]
      rw [hd] at hr
      obtain ⟨y1, y2, _⟩ := hf y (List.mem_of_getElem? hy)
      have hin : (0 : Int) ≤ k ∧ (k : Int) < l.length := by omega
      have hk1 : IntKind.i64.wrap ((k : Int) + 1) = ((k + 1 : Nat) : Int) := wrap64 (by omega) (by omega)
      have hpi : prevI x l (k + 1) = y.i := by simp only [prevI, hy]
      have hpt : prevT t l (k + 1) = y.t := by simp only [prevT, hy]
      have next : rise x t l = rise y.i y.t (l.drop (k + 1)) → rise x t l = rise (prevI x l (k + 1)) (prevT t l (k + 1)) (l.drop (k + 1)) := by
        rw [hpi, hpt]; exact id
      simp -implicitDefEqProofs only [go_sem, ↓reduceIte, Nat.reduceEqDiff, Nat.reduceLT, Nat.reduceLeDiff, Nat.reduceAdd, Nat.reduceMul, Nat.reduceSub, reduceCtorEq, Nat.reduceMod, Nat.reduceBEq, Int.reduceBEq, Int.reduceBNe, Int.reduceToNat, hin, h9, h10, h11, getD_encL hy, encE]
      intro id hid
      refine mid_cond (fun e' S2 => S2 = S'.set id (some [.int .i64 y.i, .int .i64 y.t, .sl .no 1 (encD y.d)]) ∧ e' 0 = .int .i64 (prevI x l k) ∧ e' 1 = .int .i64 (prevT t l k) ∧ e' 2 = .sl .no 3 (encL l) ∧ e' 8 = .ref id 0 ∧ e' 9 = .sl .no 3 (encL l) ∧ e' 10 = .int .i64 l.length ∧ e' 11 = .int .i64 k) ?_ ?_
      · generalize hp : prevI x l k = p at hr
        generalize hq : prevT t l k = q at hr
        rintro e' S2 ⟨rfl, g0, g1, g2, g8, g9, g10, g11⟩
        have no : rise p q (y :: l.drop (k + 1)) = false → ∃ S3, (∀ id' c, S3 id' = some c → (S'.set id (some [.int .i64 y.i, .int .i64 y.t, .sl .no 1 (encD y.d)])) id' = some c) ∧ K (.bool false) S3 := by
          intro h
          rw [hr, h] at hK
          exact ⟨S', set_drop hid (fun _ _ h => h), hK⟩
        simp -implicitDefEqProofs only [go_sem, ↓reduceIte, Nat.reduceEqDiff, Nat.reduceLT, Nat.reduceLeDiff, Nat.reduceAdd, Nat.reduceMul, Nat.reduceSub, reduceCtorEq, Nat.reduceMod, Nat.reduceBEq, Int.reduceBEq, Int.reduceBNe, Int.reduceToNat, g0]
        refine near_spec _ _ _ _ ?_
        cases a1 : within p 0
        · simp -implicitDefEqProofs only [go_sem, ↓reduceIte, Nat.reduceEqDiff, Nat.reduceLT, Nat.reduceLeDiff, Nat.reduceAdd, Nat.reduceMul, Nat.reduceSub, reduceCtorEq, Nat.reduceMod, Nat.reduceBEq, Int.reduceBEq, Int.reduceBNe, Int.reduceToNat, a1]
          exact no (by simp [rise, a1])
        · simp -implicitDefEqProofs only [go_sem, ↓reduceIte, Nat.reduceEqDiff, Nat.reduceLT, Nat.reduceLeDiff, Nat.reduceAdd, Nat.reduceMul, Nat.reduceSub, reduceCtorEq, Nat.reduceMod, Nat.reduceBEq, Int.reduceBEq, Int.reduceBNe, Int.reduceToNat, a1, g8]
          have w1 := within_iff.1 a1
          have hne : ((IntKind.i64.wrap (y.i - 1)) != p) = !(y.i == p + 1) := by
            unfold InR at y1
            rw [IntKind.wrap_i64]
            by_cases hh : y.i = p + 1
            · have : (y.i == p + 1) = true := by simpa using hh
              rw [this]
              simp
              omega
            · have : (y.i == p + 1) = false := by simpa using hh
              rw [this]
              simp
              omega
          cases a2 : (y.i == p + 1)
          · simp -implicitDefEqProofs only [go_sem, ↓reduceIte, Nat.reduceEqDiff, Nat.reduceLT, Nat.reduceLeDiff, Nat.reduceAdd, Nat.reduceMul, Nat.reduceSub, reduceCtorEq, Nat.reduceMod, Nat.reduceBEq, Int.reduceBEq, Int.reduceBNe, Int.reduceToNat, hne, a2, g0]
            exact no (by simp [rise, a2])
          · simp -implicitDefEqProofs only [go_sem, ↓reduceIte, Nat.reduceEqDiff, Nat.reduceLT, Nat.reduceLeDiff, Nat.reduceAdd, Nat.reduceMul, Nat.reduceSub, reduceCtorEq, Nat.reduceMod, Nat.reduceBEq, Int.reduceBEq, Int.reduceBNe, Int.reduceToNat, hne, a2, g0, g1, g8]
            by_cases a3 : y.t < q
            · simp -implicitDefEqProofs only [go_sem, ↓reduceIte, Nat.reduceEqDiff, Nat.reduceLT, Nat.reduceLeDiff, Nat.reduceAdd, Nat.reduceMul, Nat.reduceSub, reduceCtorEq, Nat.reduceMod, Nat.reduceBEq, Int.reduceBEq, Int.reduceBNe, Int.reduceToNat, a3]
              refine no ?_
              have : within y.t (max q 1) = false := by
                unfold within
                rw [Bool.and_eq_false_iff]
                left
                rw [decide_eq_false_iff_not]
                omega
              simp [rise, this]
            · simp -implicitDefEqProofs only [go_sem, ↓reduceIte, Nat.reduceEqDiff, Nat.reduceLT, Nat.reduceLeDiff, Nat.reduceAdd, Nat.reduceMul, Nat.reduceSub, reduceCtorEq, Nat.reduceMod, Nat.reduceBEq, Int.reduceBEq, Int.reduceBNe, Int.reduceToNat, a3, g8]
              refine near_spec _ _ _ _ ?_
              have hmx : within y.t (max q 1) = within y.t 1 := by
                unfold within
                congr 1
                have : (max q 1 ≤ y.t) ↔ (1 ≤ y.t) := by omega
                simp only [this]
              cases a4 : within y.t 1
              · simp -implicitDefEqProofs only [go_sem, ↓reduceIte, Nat.reduceEqDiff, Nat.reduceLT, Nat.reduceLeDiff, Nat.reduceAdd, Nat.reduceMul, Nat.reduceSub, reduceCtorEq, Nat.reduceMod, Nat.reduceBEq, Int.reduceBEq, Int.reduceBNe, Int.reduceToNat, a4]
                exact no (by simp [rise, hmx, a4])
              · simp -implicitDefEqProofs only [go_sem, ↓reduceIte, Nat.reduceEqDiff, Nat.reduceLT, Nat.reduceLeDiff, Nat.reduceAdd, Nat.reduceMul, Nat.reduceSub, reduceCtorEq, Nat.reduceMod, Nat.reduceBEq, Int.reduceBEq, Int.reduceBNe, Int.reduceToNat, a4, g8]
                refine near_spec _ _ _ _ ?_
                cases a5 : within y.i 1
                · simp -implicitDefEqProofs only [go_sem, ↓reduceIte, Nat.reduceEqDiff, Nat.reduceLT, Nat.reduceLeDiff, Nat.reduceAdd, Nat.reduceMul, Nat.reduceSub, reduceCtorEq, Nat.reduceMod, Nat.reduceBEq, Int.reduceBEq, Int.reduceBNe, Int.reduceToNat, a5]
                  exact no (by simp [rise, a5])
                · simp -implicitDefEqProofs only [go_sem, ↓reduceIte, Nat.reduceEqDiff, Nat.reduceLT, Nat.reduceLeDiff, Nat.reduceAdd, Nat.reduceMul, Nat.reduceSub, reduceCtorEq, Nat.reduceMod, Nat.reduceBEq, Int.reduceBEq, Int.reduceBNe, Int.reduceToNat, a5, g8]
                  by_cases a6 : (8192 : Int) < y.d.length
                  · simp -implicitDefEqProofs only [go_sem, ↓reduceIte, Nat.reduceEqDiff, Nat.reduceLT, Nat.reduceLeDiff, Nat.reduceAdd, Nat.reduceMul, Nat.reduceSub, reduceCtorEq, Nat.reduceMod, Nat.reduceBEq, Int.reduceBEq, Int.reduceBNe, Int.reduceToNat, a6]
                    refine no ?_
                    have : decide (y.d.length ≤ 8192) = false := by rw [decide_eq_false_iff_not]; omega
                    simp only [rise, this, Bool.and_false, Bool.false_and]
                  · simp -implicitDefEqProofs only [go_sem, ↓reduceIte, Nat.reduceEqDiff, Nat.reduceLT, Nat.reduceLeDiff, Nat.reduceAdd, Nat.reduceMul, Nat.reduceSub, reduceCtorEq, Nat.reduceMod, Nat.reduceBEq, Int.reduceBEq, Int.reduceBNe, Int.reduceToNat, a6, g11, hk1]
                    refine ⟨S', set_drop hid (fun _ _ h => h), ⟨rfl, k + 1, hlt, ⟨p, ?_, by omega⟩, ⟨q, ?_, by omega⟩, ?_, ?_, ?_, ?_, next ?_⟩, ?_⟩
                    · simp -implicitDefEqProofs only [go_sem, ↓reduceIte, Nat.reduceEqDiff, Nat.reduceLT, Nat.reduceLeDiff, Nat.reduceAdd, Nat.reduceMul, Nat.reduceSub, reduceCtorEq, Nat.reduceMod, Nat.reduceBEq, Int.reduceBEq, Int.reduceBNe, Int.reduceToNat, g0]
                    · simp -implicitDefEqProofs only [go_sem, ↓reduceIte, Nat.reduceEqDiff, Nat.reduceLT, Nat.reduceLeDiff, Nat.reduceAdd, Nat.reduceMul, Nat.reduceSub, reduceCtorEq, Nat.reduceMod, Nat.reduceBEq, Int.reduceBEq, Int.reduceBNe, Int.reduceToNat, g1]
                    · simp -implicitDefEqProofs only [go_sem, ↓reduceIte, Nat.reduceEqDiff, Nat.reduceLT, Nat.reduceLeDiff, Nat.reduceAdd, Nat.reduceMul, Nat.reduceSub, reduceCtorEq, Nat.reduceMod, Nat.reduceBEq, Int.reduceBEq, Int.reduceBNe, Int.reduceToNat, g2]
                    · simp -implicitDefEqProofs only [go_sem, ↓reduceIte, Nat.reduceEqDiff, Nat.reduceLT, Nat.reduceLeDiff, Nat.reduceAdd, Nat.reduceMul, Nat.reduceSub, reduceCtorEq, Nat.reduceMod, Nat.reduceBEq, Int.reduceBEq, Int.reduceBNe, Int.reduceToNat, g9]
                    · simp -implicitDefEqProofs only [go_sem, ↓reduceIte, Nat.reduceEqDiff, Nat.reduceLT, Nat.reduceLeDiff, Nat.reduceAdd, Nat.reduceMul, Nat.reduceSub, reduceCtorEq, Nat.reduceMod, Nat.reduceBEq, Int.reduceBEq, Int.reduceBNe, Int.reduceToNat, g10]
                    · simp -implicitDefEqProofs only [go_sem, ↓reduceIte, Nat.reduceEqDiff, Nat.reduceLT, Nat.reduceLeDiff, Nat.reduceAdd, Nat.reduceMul, Nat.reduceSub, reduceCtorEq, Nat.reduceMod, Nat.reduceBEq, Int.reduceBEq, Int.reduceBNe, Int.reduceToNat]
                    · rw [hr]
                      have b6 : decide (y.d.length ≤ 8192) = true := by rw [decide_eq_true_eq]; omega
                      simp only [rise, a1, a2, a5, hmx, a4, b6, Bool.true_and]
                    · simp -implicitDefEqProofs only [go_sem, ↓reduceIte, Nat.reduceEqDiff, Nat.reduceLT, Nat.reduceLeDiff, Nat.reduceAdd, Nat.reduceMul, Nat.reduceSub, reduceCtorEq, Nat.reduceMod, Nat.reduceBEq, Int.reduceBEq, Int.reduceBNe, Int.reduceToNat]
                      omega
      · intro W' hW
        by_cases hk0 : k = 0
        · subst hk0
          rw [ha rfl] at h0
          rw [hb rfl] at h1
          simp -implicitDefEqProofs only [go_sem, ↓reduceIte, Nat.reduceEqDiff, Nat.reduceLT, Nat.reduceLeDiff, Nat.reduceAdd, Nat.reduceMul, Nat.reduceSub, reduceCtorEq, Nat.reduceMod, Nat.reduceBEq, Int.reduceBEq, Int.reduceBNe, Int.reduceToNat]
          refine hW _ _ ⟨rfl, ?_, ?_, ?_, ?_, ?_, ?_, ?_⟩
          · simp -implicitDefEqProofs only [go_sem, ↓reduceIte, Nat.reduceEqDiff, Nat.reduceLT, Nat.reduceLeDiff, Nat.reduceAdd, Nat.reduceMul, Nat.reduceSub, reduceCtorEq, Nat.reduceMod, Nat.reduceBEq, Int.reduceBEq, Int.reduceBNe, Int.reduceToNat, h0, prevI]
          · simp -implicitDefEqProofs only [go_sem, ↓reduceIte, Nat.reduceEqDiff, Nat.reduceLT, Nat.reduceLeDiff, Nat.reduceAdd, Nat.reduceMul, Nat.reduceSub, reduceCtorEq, Nat.reduceMod, Nat.reduceBEq, Int.reduceBEq, Int.reduceBNe, Int.reduceToNat, h1, prevT]
          · simp -implicitDefEqProofs only [go_sem, ↓reduceIte, Nat.reduceEqDiff, Nat.reduceLT, Nat.reduceLeDiff, Nat.reduceAdd, Nat.reduceMul, Nat.reduceSub, reduceCtorEq, Nat.reduceMod, Nat.reduceBEq, Int.reduceBEq, Int.reduceBNe, Int.reduceToNat, h2]
          · simp -implicitDefEqProofs only [go_sem, ↓reduceIte, Nat.reduceEqDiff, Nat.reduceLT, Nat.reduceLeDiff, Nat.reduceAdd, Nat.reduceMul, Nat.reduceSub, reduceCtorEq, Nat.reduceMod, Nat.reduceBEq, Int.reduceBEq, Int.reduceBNe, Int.reduceToNat]
          · simp -implicitDefEqProofs only [go_sem, ↓reduceIte, Nat.reduceEqDiff, Nat.reduceLT, Nat.reduceLeDiff, Nat.reduceAdd, Nat.reduceMul, Nat.reduceSub, reduceCtorEq, Nat.reduceMod, Nat.reduceBEq, Int.reduceBEq, Int.reduceBNe, Int.reduceToNat, h9]
          · simp -implicitDefEqProofs only [go_sem, ↓reduceIte, Nat.reduceEqDiff, Nat.reduceLT, Nat.reduceLeDiff, Nat.reduceAdd, Nat.reduceMul, Nat.reduceSub, reduceCtorEq, Nat.reduceMod, Nat.reduceBEq, Int.reduceBEq, Int.reduceBNe, Int.reduceToNat, h10]
          · simp -implicitDefEqProofs only [go_sem, ↓reduceIte, Nat.reduceEqDiff, Nat.reduceLT, Nat.reduceLeDiff, Nat.reduceAdd, Nat.reduceMul, Nat.reduceSub, reduceCtorEq, Nat.reduceMod, Nat.reduceBEq, Int.reduceBEq, Int.reduceBNe, Int.reduceToNat, h11]
        · obtain ⟨m, rfl⟩ : ∃ m, k = m + 1 := ⟨k - 1, by omega⟩
          obtain ⟨z, hz⟩ : ∃ z, l[m]? = some z := ⟨_, List.getElem?_eq_getElem (by omega)⟩
          have hgt : (0 : Int) < ((m + 1 : Nat) : Int) := by omega
          have hm1 : IntKind.i64.wrap (((m + 1 : Nat) : Int) - 1) = (m : Int) := by rw [wrap64 (by omega) (by omega)]; omega
          have hin2 : (0 : Int) ≤ m ∧ (m : Int) < l.length := by omega
          simp -implicitDefEqProofs only [go_sem, ↓reduceIte, Nat.reduceEqDiff, Nat.reduceLT, Nat.reduceLeDiff, Nat.reduceAdd, Nat.reduceMul, Nat.reduceSub, reduceCtorEq, Nat.reduceMod, Nat.reduceBEq, Int.reduceBEq, Int.reduceBNe, Int.reduceToNat, hgt, h2, hm1, hin2, getD_encL hz, encE]
          refine hW _ _ ⟨rfl, ?_, ?_, ?_, ?_, ?_, ?_, ?_⟩
          · simp -implicitDefEqProofs only [go_sem, ↓reduceIte, Nat.reduceEqDiff, Nat.reduceLT, Nat.reduceLeDiff, Nat.reduceAdd, Nat.reduceMul, Nat.reduceSub, reduceCtorEq, Nat.reduceMod, Nat.reduceBEq, Int.reduceBEq, Int.reduceBNe, Int.reduceToNat, prevI, hz]
          · simp -implicitDefEqProofs only [go_sem, ↓reduceIte, Nat.reduceEqDiff, Nat.reduceLT, Nat.reduceLeDiff, Nat.reduceAdd, Nat.reduceMul, Nat.reduceSub, reduceCtorEq, Nat.reduceMod, Nat.reduceBEq, Int.reduceBEq, Int.reduceBNe, Int.reduceToNat, prevT, hz]
          · simp -implicitDefEqProofs only [go_sem, ↓reduceIte, Nat.reduceEqDiff, Nat.reduceLT, Nat.reduceLeDiff, Nat.reduceAdd, Nat.reduceMul, Nat.reduceSub, reduceCtorEq, Nat.reduceMod, Nat.reduceBEq, Int.reduceBEq, Int.reduceBNe, Int.reduceToNat, h2]
          · simp -implicitDefEqProofs only [go_sem, ↓reduceIte, Nat.reduceEqDiff, Nat.reduceLT, Nat.reduceLeDiff, Nat.reduceAdd, Nat.reduceMul, Nat.reduceSub, reduceCtorEq, Nat.reduceMod, Nat.reduceBEq, Int.reduceBEq, Int.reduceBNe, Int.reduceToNat]
          · simp -implicitDefEqProofs only [go_sem, ↓reduceIte, Nat.reduceEqDiff, Nat.reduceLT, Nat.reduceLeDiff, Nat.reduceAdd, Nat.reduceMul, Nat.reduceSub, reduceCtorEq, Nat.reduceMod, Nat.reduceBEq, Int.reduceBEq, Int.reduceBNe, Int.reduceToNat, h9]
          · simp -implicitDefEqProofs only [go_sem, ↓reduceIte, Nat.reduceEqDiff, Nat.reduceLT, Nat.reduceLeDiff, Nat.reduceAdd, Nat.reduceMul, Nat.reduceSub, reduceCtorEq, Nat.reduceMod, Nat.reduceBEq, Int.reduceBEq, Int.reduceBNe, Int.reduceToNat, h10]
          · simp -implicitDefEqProofs only [go_sem, ↓reduceIte, Nat.reduceEqDiff, Nat.reduceLT, Nat.reduceLeDiff, Nat.reduceAdd, Nat.reduceMul, Nat.reduceSub, reduceCtorEq, Nat.reduceMod, Nat.reduceBEq, Int.reduceBEq, Int.reduceBNe, Int.reduceToNat, h11]
    · have hc : ¬ (k : Int) < l.length := by omega
      simp -implicitDefEqProofs only [go_sem, ↓reduceIte, Nat.reduceEqDiff, Nat.reduceLT, Nat.reduceLeDiff, Nat.reduceAdd, Nat.reduceMul, Nat.reduceSub, reduceCtorEq, Nat.reduceMod, Nat.reduceBEq, Int.reduceBEq, Int.reduceBNe, Int.reduceToNat, hc]
      rw [List.drop_of_length_le (by omega)] at hr
      rw [hr] at hK
      exact ⟨S', fun _ _ h => h, hK⟩

theorem refCheck_spec (l : Lg) (hl : l.rows.length ≤ 100000) (hf : FineL l.rows) (S : Store) : PRet Try.prog 15 [encG l] S (.int .i64 (chkN (chk l))) := by
  intro K hK
  refine pcalls_of (C := C) (fun _ => false) (fun _ => false) Try.func15 rfl rfl (by simp [Try.f15]) ?_
  simp -implicitDefEqProofs only [go_sem, ↓reduceIte, Nat.reduceEqDiff, Nat.reduceLT, Nat.reduceLeDiff, Nat.reduceAdd, Nat.reduceMul, Nat.reduceSub, reduceCtorEq, Nat.reduceMod, Nat.reduceBEq, Int.reduceBEq, Int.reduceBNe, Int.reduceToNat, Try.f15, encG]
  unfold chk at hK
  refine near_spec _ _ _ _ ?_
  cases h1 : within l.i 0
  · rw [h1] at hK
    simp -implicitDefEqProofs only [go_sem, ↓reduceIte, Nat.reduceEqDiff, Nat.reduceLT, Nat.reduceLeDiff, Nat.reduceAdd, Nat.reduceMul, Nat.reduceSub, reduceCtorEq, Nat.reduceMod, Nat.reduceBEq, Int.reduceBEq, Int.reduceBNe, Int.reduceToNat, h1]
    exact ⟨S, fun _ _ h => h, hK⟩
  · rw [h1] at hK
    simp -implicitDefEqProofs only [go_sem, ↓reduceIte, Nat.reduceEqDiff, Nat.reduceLT, Nat.reduceLeDiff, Nat.reduceAdd, Nat.reduceMul, Nat.reduceSub, reduceCtorEq, Nat.reduceMod, Nat.reduceBEq, Int.reduceBEq, Int.reduceBNe, Int.reduceToNat, h1]
    refine near_spec _ _ _ _ ?_
    cases h2 : within l.t 0
    · rw [h2] at hK
      simp -implicitDefEqProofs only [go_sem, ↓reduceIte, Nat.reduceEqDiff, Nat.reduceLT, Nat.reduceLeDiff, Nat.reduceAdd, Nat.reduceMul, Nat.reduceSub, reduceCtorEq, Nat.reduceMod, Nat.reduceBEq, Int.reduceBEq, Int.reduceBNe, Int.reduceToNat, h2]
      exact ⟨S, fun _ _ h => h, hK⟩
    · rw [h2] at hK
      simp -implicitDefEqProofs only [go_sem, ↓reduceIte, Nat.reduceEqDiff, Nat.reduceLT, Nat.reduceLeDiff, Nat.reduceAdd, Nat.reduceMul, Nat.reduceSub, reduceCtorEq, Nat.reduceMod, Nat.reduceBEq, Int.reduceBEq, Int.reduceBNe, Int.reduceToNat, h2]
      refine On_spec _ _ _ hl hf _ _ ?_
      cases h3 : rise l.i l.t l.rows
      · rw [h3] at hK
        simp -implicitDefEqProofs only [go_sem, ↓reduceIte, Nat.reduceEqDiff, Nat.reduceLT, Nat.reduceLeDiff, Nat.reduceAdd, Nat.reduceMul, Nat.reduceSub, reduceCtorEq, Nat.reduceMod, Nat.reduceBEq, Int.reduceBEq, Int.reduceBNe, Int.reduceToNat, h3]
        exact ⟨S, fun _ _ h => h, hK⟩
      · rw [h3] at hK
        simp -implicitDefEqProofs only [go_sem, ↓reduceIte, Nat.reduceEqDiff, Nat.reduceLT, Nat.reduceLeDiff, Nat.reduceAdd, Nat.reduceMul, Nat.reduceSub, reduceCtorEq, Nat.reduceMod, Nat.reduceBEq, Int.reduceBEq, Int.reduceBNe, Int.reduceToNat, h3]
        exact ⟨S, fun _ _ h => h, hK⟩

theorem refLast_spec (l : Lg) (hl : l.rows.length ≤ 100000) (S : Store) : PRet Try.prog 16 [encG l] S (.tup [.int .i64 (lastF l.i l.t l.rows).1, .int .i64 (lastF l.i l.t l.rows).2]) := by
  intro K hK
  refine pcalls_of (C := C) (fun _ => false) (fun d => d == 7) Try.func16 rfl rfl (by simp [Try.f16]) ?_
  simp -implicitDefEqProofs only [go_sem, ↓reduceIte, Nat.reduceEqDiff, Nat.reduceLT, Nat.reduceLeDiff, Nat.reduceAdd, Nat.reduceMul, Nat.reduceSub, reduceCtorEq, Nat.reduceMod, Nat.reduceBEq, Int.reduceBEq, Int.reduceBNe, Int.reduceToNat, Try.f16, encG]
  refine vwp_draw (by decide +kernel) ?_
  simp -implicitDefEqProofs only [go_sem, ↓reduceIte, Nat.reduceEqDiff, Nat.reduceLT, Nat.reduceLeDiff, Nat.reduceAdd, Nat.reduceMul, Nat.reduceSub, reduceCtorEq, Nat.reduceMod, Nat.reduceBEq, Int.reduceBEq, Int.reduceBNe, Int.reduceToNat]
  refine vwp_loop (fun e S' => S' = S ∧ ∃ k : Nat, k ≤ l.rows.length ∧ e 4 = .int .i64 (lastF l.i l.t (l.rows.take k)).1 ∧ e 5 = .int .i64 (lastF l.i l.t (l.rows.take k)).2 ∧ e 13 = .sl .no 3 (encL l.rows) ∧ e 14 = .int .i64 l.rows.length ∧ e 15 = .int .i64 k) (fun e _ => match e 15 with | .int _ k => l.rows.length - k.toNat | _ => 0) ?_ ?_
  · exact ⟨rfl, 0, Nat.zero_le _, rfl, rfl, rfl, rfl, rfl⟩
  · rintro e S' ⟨rfl, k, hk, e4, e5, e13, e14, e15⟩
    simp -implicitDefEqProofs only [go_sem, ↓reduceIte, Nat.reduceEqDiff, Nat.reduceLT, Nat.reduceLeDiff, Nat.reduceAdd, Nat.reduceMul, Nat.reduceSub, reduceCtorEq, Nat.reduceMod, Nat.reduceBEq, Int.reduceBEq, Int.reduceBNe, Int.reduceToNat, e14, e15]
    by_cases hlt : k < l.rows.length
    · obtain ⟨y, hy⟩ : ∃ y, l.rows[k]? = some y := ⟨_, List.getElem?_eq_getElem hlt⟩
      have hin : (0 : Int) ≤ k ∧ (k : Int) < l.rows.length := by omega
      have hk1 : IntKind.i64.wrap ((k : Int) + 1) = ((k + 1 : Nat) : Int) := wrap64 (by omega) (by omega)
      have hla : lastF l.i l.t (l.rows.take (k + 1)) = (y.i, y.t) := by
        rw [List.take_add_one, hy]
        simp [lastF_app, lastF]
      simp -implicitDefEqProofs only [go_sem, ↓reduceIte, Nat.reduceEqDiff, Nat.reduceLT, Nat.reduceLeDiff, Nat.reduceAdd, Nat.reduceMul, Nat.reduceSub, reduceCtorEq, Nat.reduceMod, Nat.reduceBEq, Int.reduceBEq, Int.reduceBNe, Int.reduceToNat, hin, e13, e14, e15, getD_encL hy, encE]
      intro id hid
      simp -implicitDefEqProofs only [go_sem, ↓reduceIte, Nat.reduceEqDiff, Nat.reduceLT, Nat.reduceLeDiff, Nat.reduceAdd, Nat.reduceMul, Nat.reduceSub, reduceCtorEq, Nat.reduceMod, Nat.reduceBEq, Int.reduceBEq, Int.reduceBNe, Int.reduceToNat, e15, hk1]
      refine ⟨S', set_drop hid (fun _ _ h => h), ⟨rfl, k + 1, hlt, ?_, ?_, ?_, ?_, ?_⟩, ?_⟩
      · rw [hla]; simp -implicitDefEqProofs only [go_sem, ↓reduceIte, Nat.reduceEqDiff, Nat.reduceLT, Nat.reduceLeDiff, Nat.reduceAdd, Nat.reduceMul, Nat.reduceSub, reduceCtorEq, Nat.reduceMod, Nat.reduceBEq, Int.reduceBEq, Int.reduceBNe, Int.reduceToNat]
      · rw [hla]; simp -implicitDefEqProofs only [go_sem, ↓reduceIte, Nat.reduceEqDiff, Nat.reduceLT, Nat.reduceLeDiff, Nat.reduceAdd, Nat.reduceMul, Nat.reduceSub, reduceCtorEq, Nat.reduceMod, Nat.reduceBEq, Int.reduceBEq, Int.reduceBNe, Int.reduceToNat]
      · simp -implicitDefEqProofs only [go_sem, ↓reduceIte, Nat.reduceEqDiff, Nat.reduceLT, Nat.reduceLeDiff, Nat.reduceAdd, Nat.reduceMul, Nat.reduceSub, reduceCtorEq, Nat.reduceMod, Nat.reduceBEq, Int.reduceBEq, Int.reduceBNe, Int.reduceToNat, e13]
      · simp -implicitDefEqProofs only [go_sem, ↓reduceIte, Nat.reduceEqDiff, Nat.reduceLT, Nat.reduceLeDiff, Nat.reduceAdd, Nat.reduceMul, Nat.reduceSub, reduceCtorEq, Nat.reduceMod, Nat.reduceBEq, Int.reduceBEq, Int.reduceBNe, Int.reduceToNat, e14]
      · simp -implicitDefEqProofs only [go_sem, ↓reduceIte, Nat.reduceEqDiff, Nat.reduceLT, Nat.reduceLeDiff, Nat.reduceAdd, Nat.reduceMul, Nat.reduceSub, reduceCtorEq, Nat.reduceMod, Nat.reduceBEq, Int.reduceBEq, Int.reduceBNe, Int.reduceToNat]
      · simp -implicitDefEqProofs only [go_sem, ↓reduceIte, Nat.reduceEqDiff, Nat.reduceLT, Nat.reduceLeDiff, Nat.reduceAdd, Nat.reduceMul, Nat.reduceSub, reduceCtorEq, Nat.reduceMod, Nat.reduceBEq, Int.reduceBEq, Int.reduceBNe, Int.reduceToNat]
        omega
    · have hc : ¬ (k : Int) < l.rows.length := by omega
      simp -implicitDefEqProofs only [go_sem, ↓reduceIte, Nat.reduceEqDiff, Nat.reduceLT, Nat.reduceLeDiff, Nat.reduceAdd, Nat.reduceMul, Nat.reduceSub, reduceCtorEq, Nat.reduceMod, Nat.reduceBEq, Int.reduceBEq, Int.reduceBNe, Int.reduceToNat, hc, e4, e5]
      rw [List.take_of_length_le (by omega)]
      exact ⟨S', fun _ _ h => h, hK⟩

/-! ### copies -/
def cellsL (l : List Ent) : List PV := bareAll (encL l)
theorem cellsL_len (l : List Ent) : (cellsL l).length = l.length * 3 := by
  unfold cellsL
  rw [bareAll_len (sz := 3) (fun j c hj => ?_), len_encL]
  simp only [encL, List.getElem?_map, Option.map_eq_some_iff] at hj
  obtain ⟨e, _, rfl⟩ := hj
  rfl
theorem cellsL_cons (e : Ent) (l : List Ent) : cellsL (e :: l) = encE e ++ cellsL l := by
  simp only [cellsL, encL, List.map_cons, bareAll_cons, encE, List.map_nil, b_int, b_sl]
theorem cellsL_get : ∀ (l : List Ent) (k : Nat) (e : Ent), l[k]? = some e → (cellsL l)[k * 3]? = some (.int .i64 e.i) ∧ (cellsL l)[k * 3 + 1]? = some (.int .i64 e.t) ∧ (cellsL l)[k * 3 + 2]? = some (.sl .no 1 (encD e.d))
  | [], k, e, h => by simp at h
  | a :: l, 0, e, h => by
    simp at h
    subst h
    rw [cellsL_cons]
    simp [encE]
  | a :: l, k + 1, e, h => by
    obtain ⟨h1, h2, h3⟩ := cellsL_get l k e (by simpa using h)
    rw [cellsL_cons]
    simp only [encE, List.cons_append, List.nil_append, Nat.add_mul, Nat.one_mul]
    refine ⟨?_, ?_, ?_⟩
    · rw [show k * 3 + 3 = (k * 3) + 1 + 1 + 1 by omega]; simpa using h1
    · rw [show k * 3 + 3 + 1 = (k * 3 + 1) + 1 + 1 + 1 by omega]; simpa using h2
    · rw [show k * 3 + 3 + 2 = (k * 3 + 2) + 1 + 1 + 1 by omega]; simpa using h3
theorem splice_same {cells : List PV} {off : Nat} {v : PV} (h : cells[off]? = some v) : psplice cells off [v] = cells := by
  have hlt := (List.getElem?_eq_some_iff.1 h).1
  have he : cells[off] = v := by rw [List.getElem?_eq_getElem hlt] at h; injection h
  unfold psplice
  rw [show off + [v].length = off + 1 from rfl, ← he]
  rw [List.append_assoc, List.singleton_append, ← List.drop_eq_getElem_cons hlt, List.take_append_drop]
theorem fz_cells {Sf : Store} {id : Nat} {f : Fl} (l : List Ent) (h : Sf id = some (cellsL l)) : Fz Sf (.arr f id 0 l.length 3) (.sl .no 3 (encL l)) := by
  have row : ∀ (j : Nat) (c : List PV), (encL l)[j]? = some c → ∃ e, l[j]? = some e ∧ c = encE e := by
    intro j c hj
    simp only [encL, List.getElem?_map, Option.map_eq_some_iff] at hj
    obtain ⟨e, he, rfl⟩ := hj
    exact ⟨e, he, rfl⟩
  refine .arr h (len_encL l) (fun j c hj => ?_) (fun j k => ((encL l).getD j []).getD k .undef) (fun j c k v hj hk => ?_) (fun j c k v hj hk => ?_)
  · obtain ⟨e, _, rfl⟩ := row j c hj; rfl
  · obtain ⟨e, he, rfl⟩ := row j c hj
    obtain ⟨h1, h2, h3⟩ := cellsL_get l j e he
    rw [getD_encL he, List.getD_eq_getElem?_getD, hk, Option.getD_some]
    rcases k with _ | _ | _ | k
    · simp [encE] at hk; subst hk; simpa using h1
    · simp [encE] at hk; subst hk; simpa using h2
    · simp [encE] at hk; subst hk; simpa using h3
    · simp [encE] at hk
  · obtain ⟨e, he, rfl⟩ := row j c hj
    have : ((encL l).getD j []).getD k .undef = v := by rw [getD_encL he, List.getD_eq_getElem?_getD, hk, Option.getD_some]
    rw [this]
    exact .refl v

theorem cloneO_spec (l : List Ent) (hl : l.length ≤ 3518437208883) (S : Store) (K : PV → Store → Prop) (hK : ∀ id, S id = none → K (.arr .tail id 0 l.length 3) (S.set id (some (cellsL l)))) : PCalls Try.prog 36 [.sl .no 3 (encL l)] S K := by
  refine pcalls_of (C := C) (fun d => d == 2) (fun d => d == 2 || d == 7) Try.func36 rfl rfl (by simp [Try.f36]) ?_
  simp -implicitDefEqProofs only [go_sem, ↓reduceIte, Nat.reduceEqDiff, Nat.reduceLT, Nat.reduceLeDiff, Nat.reduceAdd, Nat.reduceMul, Nat.reduceSub, reduceCtorEq, Nat.reduceMod, Nat.reduceBEq, Int.reduceBEq, Int.reduceBNe, Int.reduceToNat, Try.f36]
  intro id0 hid0 b hb
  cases b
  · simp -implicitDefEqProofs only [go_sem, ↓reduceIte, Nat.reduceEqDiff, Nat.reduceLT, Nat.reduceLeDiff, Nat.reduceAdd, Nat.reduceMul, Nat.reduceSub, reduceCtorEq, Nat.reduceMod, Nat.reduceBEq, Int.reduceBEq, Int.reduceBNe, Int.reduceToNat]
    have h1 : l.length * 40 ≤ 140737488355328 ∧ l.length ≤ 140737488355328 := by omega
    simp -implicitDefEqProofs only [go_sem, ↓reduceIte, Nat.reduceEqDiff, Nat.reduceLT, Nat.reduceLeDiff, Nat.reduceAdd, Nat.reduceMul, Nat.reduceSub, reduceCtorEq, Nat.reduceMod, Nat.reduceBEq, Int.reduceBEq, Int.reduceBNe, Int.reduceToNat, h1]
    intro id hid
    obtain ⟨h2, h3⟩ := set_none hid
    exact ⟨S.set id (some (cellsL l)), fun i c hi => by
      simp only [Store.set] at hi ⊢
      split
      · rename_i h; rw [if_pos h] at hi; exact hi
      · rename_i h
        rw [if_neg h] at hi
        rw [if_neg (fun e => by rw [e, hid0] at hi; cases hi)]
        exact hi, hK id h3⟩
  · have h0 := hb rfl
    have hl0 : l = [] := List.eq_nil_of_length_eq_zero (by rw [← len_encL, h0]; rfl)
    subst hl0
    simp -implicitDefEqProofs only [go_sem, ↓reduceIte, Nat.reduceEqDiff, Nat.reduceLT, Nat.reduceLeDiff, Nat.reduceAdd, Nat.reduceMul, Nat.reduceSub, reduceCtorEq, Nat.reduceMod, Nat.reduceBEq, Int.reduceBEq, Int.reduceBNe, Int.reduceToNat]
    intro id hid
    obtain ⟨h2, h3⟩ := set_none hid
    exact ⟨S.set id (some (cellsL [])), fun i c hi => by
      simp only [Store.set] at hi ⊢
      split
      · rename_i h; rw [if_pos h] at hi; exact hi
      · rename_i h
        rw [if_neg h] at hi
        rw [if_neg (fun e => by rw [e, hid0] at hi; cases hi)]
        exact hi, hK id h3⟩

theorem cloneBig_spec (d : List Int) (hd : d.length ≤ 140737488351232) (S : Store) : PRet Try.prog 37 [.sl .no 1 (encD d)] S (.sl .tail 1 (encD d)) := by
  intro K hK
  refine pcalls_of (C := C) (fun d => d == 2) (fun _ => false) Try.func37 rfl rfl (by simp [Try.f37]) ?_
  simp -implicitDefEqProofs only [go_sem, ↓reduceIte, Nat.reduceEqDiff, Nat.reduceLT, Nat.reduceLeDiff, Nat.reduceAdd, Nat.reduceMul, Nat.reduceSub, reduceCtorEq, Nat.reduceMod, Nat.reduceBEq, Int.reduceBEq, Int.reduceBNe, Int.reduceToNat, Try.f37]
  intro b hb
  cases b
  · simp -implicitDefEqProofs only [go_sem, ↓reduceIte, Nat.reduceEqDiff, Nat.reduceLT, Nat.reduceLeDiff, Nat.reduceAdd, Nat.reduceMul, Nat.reduceSub, reduceCtorEq, Nat.reduceMod, Nat.reduceBEq, Int.reduceBEq, Int.reduceBNe, Int.reduceToNat]
    have h1 : d.length * 1 ≤ 140737488355328 ∧ d.length ≤ 140737488355328 := by omega
    simp -implicitDefEqProofs only [go_sem, ↓reduceIte, Nat.reduceEqDiff, Nat.reduceLT, Nat.reduceLeDiff, Nat.reduceAdd, Nat.reduceMul, Nat.reduceSub, reduceCtorEq, Nat.reduceMod, Nat.reduceBEq, Int.reduceBEq, Int.reduceBNe, Int.reduceToNat, h1]
    exact ⟨S, fun _ _ h => h, hK⟩
  · have := hb rfl
    simp -implicitDefEqProofs only [go_sem, ↓reduceIte, Nat.reduceEqDiff, Nat.reduceLT, Nat.reduceLeDiff, Nat.reduceAdd, Nat.reduceMul, Nat.reduceSub, reduceCtorEq, Nat.reduceMod, Nat.reduceBEq, Int.reduceBEq, Int.reduceBNe, Int.reduceToNat]
    rw [this] at hK
    exact ⟨S, fun _ _ h => h, hK⟩

theorem copied_spec (l : List Ent) (hl : l.length ≤ 100000) (hf : FineL l) (S : Store) : PRet Try.prog 17 [.sl .no 3 (encL l)] S (.sl .no 3 (encL l)) := by
  intro K hK
  refine PCalls.freeze (K0 := fun v S' => ∃ id, S id = none ∧ v = .arr .no id 0 l.length 3 ∧ S' = S.set id (some (cellsL l))) ?_ ?_
  · refine pcalls_of (C := C) (fun _ => false) (fun _ => false) Try.func17 rfl rfl (by simp [Try.f17]) ?_
    simp -implicitDefEqProofs only [go_sem, ↓reduceIte, Nat.reduceEqDiff, Nat.reduceLT, Nat.reduceLeDiff, Nat.reduceAdd, Nat.reduceMul, Nat.reduceSub, reduceCtorEq, Nat.reduceMod, Nat.reduceBEq, Int.reduceBEq, Int.reduceBNe, Int.reduceToNat, Try.f17]
    refine cloneO_spec l (by omega) _ _ fun id hid => ?_
    simp -implicitDefEqProofs only [go_sem, ↓reduceIte, Nat.reduceEqDiff, Nat.reduceLT, Nat.reduceLeDiff, Nat.reduceAdd, Nat.reduceMul, Nat.reduceSub, reduceCtorEq, Nat.reduceMod, Nat.reduceBEq, Int.reduceBEq, Int.reduceBNe, Int.reduceToNat]
    refine vwp_loop (fun e S' => S' = S.set id (some (cellsL l)) ∧ ∃ k : Nat, k ≤ l.length ∧ e 0 = .arr .no id 0 l.length 3 ∧ e 7 = .int .i64 l.length ∧ e 8 = .int .i64 k) (fun e _ => match e 8 with | .int _ k => l.length - k.toNat | _ => 0) ?_ ?_
    · exact ⟨rfl, 0, Nat.zero_le _, rfl, rfl, rfl⟩
    · rintro e S' ⟨rfl, k, hk, e0, e7, e8⟩
      simp -implicitDefEqProofs only [go_sem, ↓reduceIte, Nat.reduceEqDiff, Nat.reduceLT, Nat.reduceLeDiff, Nat.reduceAdd, Nat.reduceMul, Nat.reduceSub, reduceCtorEq, Nat.reduceMod, Nat.reduceBEq, Int.reduceBEq, Int.reduceBNe, Int.reduceToNat, e7, e8]
      by_cases hlt : k < l.length
      · obtain ⟨y, hy⟩ : ∃ y, l[k]? = some y := ⟨_, List.getElem?_eq_getElem hlt⟩
        have hin : (0 : Int) ≤ k ∧ (k : Int) < l.length := by omega
        have hk1 : IntKind.i64.wrap ((k : Int) + 1) = ((k + 1 : Nat) : Int) := wrap64 (by omega) (by omega)
        obtain ⟨c1, c2, c3⟩ := cellsL_get l k y hy
        have hcm : ((cellsL l).map PV.bare)[k * 3 + 2]? = some (.sl .no 1 (encD y.d)) := by rw [List.getElem?_map, c3]; rfl
        simp -implicitDefEqProofs only [go_sem, ↓reduceIte, Nat.reduceEqDiff, Nat.reduceLT, Nat.reduceLeDiff, Nat.reduceAdd, Nat.reduceMul, Nat.reduceSub, reduceCtorEq, Nat.reduceMod, Nat.reduceBEq, Int.reduceBEq, Int.reduceBNe, Int.reduceToNat, hin, e0, e8, hcm]
        refine cloneBig_spec y.d (hf y (List.mem_of_getElem? hy)).2.2.1 _ _ ?_
        have hlc := cellsL_len l
        have hfit : k * 3 + 2 + 1 ≤ (cellsL l).length := by omega
        simp -implicitDefEqProofs only [go_sem, ↓reduceIte, Nat.reduceEqDiff, Nat.reduceLT, Nat.reduceLeDiff, Nat.reduceAdd, Nat.reduceMul, Nat.reduceSub, reduceCtorEq, Nat.reduceMod, Nat.reduceBEq, Int.reduceBEq, Int.reduceBNe, Int.reduceToNat, hin, e0, e8, hfit, splice_same c3, hk1]
        refine ⟨_, fun _ _ h => h, ⟨rfl, k + 1, hlt, ?_, ?_, ?_⟩, ?_⟩
        · simp -implicitDefEqProofs only [go_sem, ↓reduceIte, Nat.reduceEqDiff, Nat.reduceLT, Nat.reduceLeDiff, Nat.reduceAdd, Nat.reduceMul, Nat.reduceSub, reduceCtorEq, Nat.reduceMod, Nat.reduceBEq, Int.reduceBEq, Int.reduceBNe, Int.reduceToNat, e0]
        · simp -implicitDefEqProofs only [go_sem, ↓reduceIte, Nat.reduceEqDiff, Nat.reduceLT, Nat.reduceLeDiff, Nat.reduceAdd, Nat.reduceMul, Nat.reduceSub, reduceCtorEq, Nat.reduceMod, Nat.reduceBEq, Int.reduceBEq, Int.reduceBNe, Int.reduceToNat, e7]
        · simp -implicitDefEqProofs only [go_sem, ↓reduceIte, Nat.reduceEqDiff, Nat.reduceLT, Nat.reduceLeDiff, Nat.reduceAdd, Nat.reduceMul, Nat.reduceSub, reduceCtorEq, Nat.reduceMod, Nat.reduceBEq, Int.reduceBEq, Int.reduceBNe, Int.reduceToNat]
        · simp -implicitDefEqProofs only [go_sem, ↓reduceIte, Nat.reduceEqDiff, Nat.reduceLT, Nat.reduceLeDiff, Nat.reduceAdd, Nat.reduceMul, Nat.reduceSub, reduceCtorEq, Nat.reduceMod, Nat.reduceBEq, Int.reduceBEq, Int.reduceBNe, Int.reduceToNat]
          omega
      · have hc : ¬ (k : Int) < l.length := by omega
        simp -implicitDefEqProofs only [go_sem, ↓reduceIte, Nat.reduceEqDiff, Nat.reduceLT, Nat.reduceLeDiff, Nat.reduceAdd, Nat.reduceMul, Nat.reduceSub, reduceCtorEq, Nat.reduceMod, Nat.reduceBEq, Int.reduceBEq, Int.reduceBNe, Int.reduceToNat, hc, e0]
        exact ⟨_, fun _ _ h => h, id, hid, rfl, rfl⟩
  · rintro v S' ⟨id, hid, rfl, rfl⟩
    refine ⟨.sl .no 3 (encL l), fun i => if i = id then some (cellsL l) else none, fun i c hi => ?_, fz_cells l (if_pos rfl), rfl, ?_⟩
    · have hi : (if i = id then some (cellsL l) else none) = some c := hi
      simp only [Store.set]
      split at hi
      · rename_i h; rw [if_pos h]; exact hi
      · cases hi
    · have : (fun i => if ((if i = id then some (cellsL l) else none : Option (List PV))).isSome = true then none else (S.set id (some (cellsL l))) i) = S := by
        funext i
        by_cases h : i = id
        · simp [h, hid]
        · simp [h, Store.set]
      rw [this]
      exact hK
end Go.Proofs.Ytjdfajibflodbaa.V
