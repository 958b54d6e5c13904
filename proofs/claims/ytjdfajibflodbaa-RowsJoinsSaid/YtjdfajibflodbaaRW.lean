/- Rows: the document's answers on a log: the term at an index, who is fresh, what is cut, from where to ask. -/
import Derived.Test.YtjdfajibflodbaaRU
import Derived.Test.YtjdfajibflodbaaRL3
set_option linter.unusedVariables false
set_option linter.unusedSimpArgs false
namespace Go.Proofs.Ytjdfajibflodbaa.V
open Go Go.VL

theorem at_none {l : Lg} (h : chk l = true) {x : Int} (h0 : x ≠ l.i) (hn : ∀ (j : Nat) (e : Ent), l.rows[j]? = some e → e.i ≠ x) : atF l x = (0, false) := by
  obtain ⟨c1, c2, c3, c4, hr⟩ := chk_iff h
  unfold atF
  rw [if_neg h0]
  split
  · rfl
  · rename_i hx
    cases he : l.rows[(x - l.i - 1).toNat]? with
    | none => rfl
    | some e =>
      have := (rise_get _ _ _ hr _ e he).1
      exact absurd (by omega) (hn _ e he)

theorem refAt_spec (l : Lg) (x : Int) (hc : chk l = true) (hl : l.rows.length ≤ 100000) (S : Store) : PRet Try.prog 30 [encG l, .int .i64 x] S (.tup [.int .i64 (atF l x).1, .bool (atF l x).2]) := by
  intro K hK
  refine pcalls_of (C := C) (fun _ => false) (fun _ => false) Try.func30 rfl rfl (by simp [Try.f30]) ?_
  simp -implicitDefEqProofs only [go_sem, ↓reduceIte, Nat.reduceEqDiff, Nat.reduceLT, Nat.reduceLeDiff, Nat.reduceAdd, Nat.reduceMul, Nat.reduceSub, reduceCtorEq, Nat.reduceMod, Nat.reduceBEq, Int.reduceBEq, Int.reduceBNe, Int.reduceToNat, Try.f30, encG]
  by_cases h0 : x = l.i
  · have h1 : (x == l.i) = true := by simpa using h0
    simp -implicitDefEqProofs only [go_sem, ↓reduceIte, Nat.reduceEqDiff, Nat.reduceLT, Nat.reduceLeDiff, Nat.reduceAdd, Nat.reduceMul, Nat.reduceSub, reduceCtorEq, Nat.reduceMod, Nat.reduceBEq, Int.reduceBEq, Int.reduceBNe, Int.reduceToNat, h1]
    unfold atF at hK
    rw [if_pos h0] at hK
    exact ⟨S, fun _ _ h => h, hK⟩
  · have h1 : (x == l.i) = false := by simpa using h0
    simp -implicitDefEqProofs only [go_sem, ↓reduceIte, Nat.reduceEqDiff, Nat.reduceLT, Nat.reduceLeDiff, Nat.reduceAdd, Nat.reduceMul, Nat.reduceSub, reduceCtorEq, Nat.reduceMod, Nat.reduceBEq, Int.reduceBEq, Int.reduceBNe, Int.reduceToNat, h1]
    refine vwp_loop (fun e S' => S' = S ∧ ∃ k : Nat, k ≤ l.rows.length ∧ e 1 = .int .i64 x ∧ e 15 = .sl .no 3 (encL l.rows) ∧ e 16 = .int .i64 l.rows.length ∧ e 17 = .int .i64 k ∧ ∀ (j : Nat) (e : Ent), j < k → l.rows[j]? = some e → e.i ≠ x) (fun e _ => match e 17 with | .int _ k => l.rows.length - k.toNat | _ => 0) ?_ ?_
    · exact ⟨rfl, 0, Nat.zero_le _, rfl, rfl, rfl, rfl, by omega⟩
    · rintro e S' ⟨rfl, k, hk, e1, e15, e16, e17, hn⟩
      simp -implicitDefEqProofs only [go_sem, ↓reduceIte, Nat.reduceEqDiff, Nat.reduceLT, Nat.reduceLeDiff, Nat.reduceAdd, Nat.reduceMul, Nat.reduceSub, reduceCtorEq, Nat.reduceMod, Nat.reduceBEq, Int.reduceBEq, Int.reduceBNe, Int.reduceToNat, e16, e17]
      by_cases hlt : k < l.rows.length
      · obtain ⟨y, hy⟩ : ∃ y, l.rows[k]? = some y := ⟨_, List.getElem?_eq_getElem hlt⟩
        have hin : (0 : Int) ≤ k ∧ (k : Int) < l.rows.length := by omega
        have hk1 : IntKind.i64.wrap ((k : Int) + 1) = ((k + 1 : Nat) : Int) := wrap64 (by omega) (by omega)
        simp -implicitDefEqProofs only [go_sem, ↓reduceIte, Nat.reduceEqDiff, Nat.reduceLT, Nat.reduceLeDiff, Nat.reduceAdd, Nat.reduceMul, Nat.reduceSub, reduceCtorEq, Nat.reduceMod, Nat.reduceBEq, Int.reduceBEq, Int.reduceBNe, Int.reduceToNat, hin, e1, e15, e16, e17, getD_encL hy, encE]
        by_cases h2 : y.i = x
        · have h3 : (y.i == x) = true := by simpa using h2
          simp -implicitDefEqProofs only [go_sem, ↓reduceIte, Nat.reduceEqDiff, Nat.reduceLT, Nat.reduceLeDiff, Nat.reduceAdd, Nat.reduceMul, Nat.reduceSub, reduceCtorEq, Nat.reduceMod, Nat.reduceBEq, Int.reduceBEq, Int.reduceBNe, Int.reduceToNat, h3]
          subst h2
          rw [at_row hc hy] at hK
          exact ⟨S', fun _ _ h => h, hK⟩
        · have h3 : (y.i == x) = false := by simpa using h2
          simp -implicitDefEqProofs only [go_sem, ↓reduceIte, Nat.reduceEqDiff, Nat.reduceLT, Nat.reduceLeDiff, Nat.reduceAdd, Nat.reduceMul, Nat.reduceSub, reduceCtorEq, Nat.reduceMod, Nat.reduceBEq, Int.reduceBEq, Int.reduceBNe, Int.reduceToNat, h3, e17, hk1]
          refine ⟨S', fun _ _ h => h, ⟨rfl, k + 1, hlt, ?_, ?_, ?_, ?_, fun j e hj he => ?_⟩, ?_⟩
          · simp -implicitDefEqProofs only [go_sem, ↓reduceIte, Nat.reduceEqDiff, Nat.reduceLT, Nat.reduceLeDiff, Nat.reduceAdd, Nat.reduceMul, Nat.reduceSub, reduceCtorEq, Nat.reduceMod, Nat.reduceBEq, Int.reduceBEq, Int.reduceBNe, Int.reduceToNat, e1]
          · simp -implicitDefEqProofs only [go_sem, ↓reduceIte, Nat.reduceEqDiff, Nat.reduceLT, Nat.reduceLeDiff, Nat.reduceAdd, Nat.reduceMul, Nat.reduceSub, reduceCtorEq, Nat.reduceMod, Nat.reduceBEq, Int.reduceBEq, Int.reduceBNe, Int.reduceToNat, e15]
          · simp -implicitDefEqProofs only [go_sem, ↓reduceIte, Nat.reduceEqDiff, Nat.reduceLT, Nat.reduceLeDiff, Nat.reduceAdd, Nat.reduceMul, Nat.reduceSub, reduceCtorEq, Nat.reduceMod, Nat.reduceBEq, Int.reduceBEq, Int.reduceBNe, Int.reduceToNat, e16]
          · simp -implicitDefEqProofs only [go_sem, ↓reduceIte, Nat.reduceEqDiff, Nat.reduceLT, Nat.reduceLeDiff, Nat.reduceAdd, Nat.reduceMul, Nat.reduceSub, reduceCtorEq, Nat.reduceMod, Nat.reduceBEq, Int.reduceBEq, Int.reduceBNe, Int.reduceToNat]
          · by_cases hjk : j = k
            · subst hjk
              rw [hy] at he
              injection he with he
              subst he
              exact h2
            · exact hn j e (by omega) he
          · simp -implicitDefEqProofs only [go_sem, ↓reduceIte, Nat.reduceEqDiff, Nat.reduceLT, Nat.reduceLeDiff, Nat.reduceAdd, Nat.reduceMul, Nat.reduceSub, reduceCtorEq, Nat.reduceMod, Nat.reduceBEq, Int.reduceBEq, Int.reduceBNe, Int.reduceToNat]
            omega
      · have hcc : ¬ (k : Int) < l.rows.length := by omega
        simp -implicitDefEqProofs only [go_sem, ↓reduceIte, Nat.reduceEqDiff, Nat.reduceLT, Nat.reduceLeDiff, Nat.reduceAdd, Nat.reduceMul, Nat.reduceSub, reduceCtorEq, Nat.reduceMod, Nat.reduceBEq, Int.reduceBEq, Int.reduceBNe, Int.reduceToNat, hcc]
        rw [at_none hc h0 (fun j e he => hn j e (by have := (List.getElem?_eq_some_iff.1 he).1; omega) he)] at hK
        exact ⟨S', fun _ _ h => h, hK⟩

theorem refFresh_spec (l : Lg) (x t : Int) (hc : chk l = true) (hl : l.rows.length ≤ 100000) (S : Store) : PRet Try.prog 28 [encG l, .int .i64 x, .int .i64 t] S (.bool (freshF l x t)) := by
  intro K hK
  refine pcalls_of (C := C) (fun _ => false) (fun _ => false) Try.func28 rfl rfl (by simp [Try.f28]) ?_
  simp -implicitDefEqProofs only [go_sem, ↓reduceIte, Nat.reduceEqDiff, Nat.reduceLT, Nat.reduceLeDiff, Nat.reduceAdd, Nat.reduceMul, Nat.reduceSub, reduceCtorEq, Nat.reduceMod, Nat.reduceBEq, Int.reduceBEq, Int.reduceBNe, Int.reduceToNat, Try.f28, encG]
  refine refLast_spec l hl _ _ ?_
  unfold freshF at hK
  rw [hc] at hK
  simp only [Bool.true_and] at hK
  simp -implicitDefEqProofs only [go_sem, ↓reduceIte, Nat.reduceEqDiff, Nat.reduceLT, Nat.reduceLeDiff, Nat.reduceAdd, Nat.reduceMul, Nat.reduceSub, reduceCtorEq, Nat.reduceMod, Nat.reduceBEq, Int.reduceBEq, Int.reduceBNe, Int.reduceToNat]
  cases h1 : decide ((lastF l.i l.t l.rows).2 < t)
  · rw [h1] at hK
    simp -implicitDefEqProofs only [go_sem, ↓reduceIte, Nat.reduceEqDiff, Nat.reduceLT, Nat.reduceLeDiff, Nat.reduceAdd, Nat.reduceMul, Nat.reduceSub, reduceCtorEq, Nat.reduceMod, Nat.reduceBEq, Int.reduceBEq, Int.reduceBNe, Int.reduceToNat, h1]
    cases h2 : t == (lastF l.i l.t l.rows).2
    · rw [h2] at hK
      simp -implicitDefEqProofs only [go_sem, ↓reduceIte, Nat.reduceEqDiff, Nat.reduceLT, Nat.reduceLeDiff, Nat.reduceAdd, Nat.reduceMul, Nat.reduceSub, reduceCtorEq, Nat.reduceMod, Nat.reduceBEq, Int.reduceBEq, Int.reduceBNe, Int.reduceToNat, h2]
      exact ⟨S, fun _ _ h => h, by simpa using hK⟩
    · rw [h2] at hK
      simp -implicitDefEqProofs only [go_sem, ↓reduceIte, Nat.reduceEqDiff, Nat.reduceLT, Nat.reduceLeDiff, Nat.reduceAdd, Nat.reduceMul, Nat.reduceSub, reduceCtorEq, Nat.reduceMod, Nat.reduceBEq, Int.reduceBEq, Int.reduceBNe, Int.reduceToNat, h2]
      exact ⟨S, fun _ _ h => h, by simpa using hK⟩
  · rw [h1] at hK
    simp -implicitDefEqProofs only [go_sem, ↓reduceIte, Nat.reduceEqDiff, Nat.reduceLT, Nat.reduceLeDiff, Nat.reduceAdd, Nat.reduceMul, Nat.reduceSub, reduceCtorEq, Nat.reduceMod, Nat.reduceBEq, Int.reduceBEq, Int.reduceBNe, Int.reduceToNat, h1]
    exact ⟨S, fun _ _ h => h, by simpa using hK⟩

/-- What is left of rows behind an index. -/
theorem filter_drop {l : Lg} (h : chk l = true) {x : Int} (hx : l.i ≤ x) : l.rows.filter (fun e => decide (x < e.i)) = l.rows.drop (x - l.i).toNat := by
  obtain ⟨c1, c2, c3, c4, hr⟩ := chk_iff h
  have key : ∀ (rows : List Ent) (i t : Int), rise i t rows = true → i ≤ x → rows.filter (fun e => decide (x < e.i)) = rows.drop (x - i).toNat := by
    intro rows
    induction rows with
    | nil => intro i t _ _; simp
    | cons e rows ih =>
      intro i t hr hi
      have hr0 := hr
      simp only [rise, Bool.and_eq_true, beq_iff_eq] at hr
      have b2 := hr.1.1.1.1.2
      by_cases hx0 : x = i
      · have hall : ∀ e' ∈ e :: rows, decide (x < e'.i) = true := by
          intro e' he'
          obtain ⟨k, hk⟩ := List.mem_iff_getElem?.1 he'
          have := (rise_get _ _ _ hr0 k e' hk).1
          simp
          omega
        rw [List.filter_eq_self.2 hall, hx0]
        simp
      · have : decide (x < e.i) = false := by simp; omega
        rw [List.filter_cons_of_neg (by rw [this]; simp), ih e.i e.t hr.2 (by omega)]
        rw [show (x - i).toNat = (x - e.i).toNat + 1 by omega]
        rfl
  exact key l.rows l.i l.t hr hx

theorem refCut_spec (l : Lg) (x t : Int) (hc : chk l = true) (hl : l.rows.length ≤ 100000) (S : Store) : PRet Try.prog 26 [encG l, .int .i64 x, .int .i64 t] S (encG (cutF l x t)) := by
  intro K hK
  refine pcalls_of (C := C) (fun d => d == 14 || d == 41 || d == 44) (fun d => d == 7) Try.func26 rfl rfl (by simp [Try.f26]) ?_
  simp -implicitDefEqProofs only [go_sem, ↓reduceIte, Nat.reduceEqDiff, Nat.reduceLT, Nat.reduceLeDiff, Nat.reduceAdd, Nat.reduceMul, Nat.reduceSub, reduceCtorEq, Nat.reduceMod, Nat.reduceBEq, Int.reduceBEq, Int.reduceBNe, Int.reduceToNat, Try.f26, encG]
  intro id hid
  refine refAt_spec l x hc hl _ _ ?_
  simp -implicitDefEqProofs only [go_sem, ↓reduceIte, Nat.reduceEqDiff, Nat.reduceLT, Nat.reduceLeDiff, Nat.reduceAdd, Nat.reduceMul, Nat.reduceSub, reduceCtorEq, Nat.reduceMod, Nat.reduceBEq, Int.reduceBEq, Int.reduceBNe, Int.reduceToNat]
  obtain ⟨P, hP⟩ : ∃ P : Ent → Bool, P = fun e => ((atF l x).2 && ((atF l x).1 == t)) && decide (x < e.i) := ⟨_, rfl⟩
  have hcut : cutF l x t = ⟨x, t, l.rows.filter P⟩ := by
    subst hP
    unfold cutF
    rw [hc, Bool.true_and]
    cases hb : ((atF l x).2 && ((atF l x).1 == t))
    · simp
    · simp only [Bool.and_eq_true] at hb
      simp only [if_true, Bool.true_and]
      rw [filter_drop hc (at_ge hb.1)]
  refine vloop (fun e S' => ∃ k : Nat, S' = S.set id (some [.int .i64 x, .int .i64 t, .sl .tail 3 (encL ((l.rows.take k).filter P))]) ∧ k ≤ l.rows.length ∧ e 1 = .int .i64 x ∧ e 2 = .int .i64 t ∧ e 6 = .fresh 3 ∧ e 7 = .ref id 0 ∧ e 8 = .int .i64 (atF l x).1 ∧ e 9 = .bool (atF l x).2 ∧ e 22 = .sl .no 3 (encL l.rows) ∧ e 23 = .int .i64 l.rows.length ∧ e 24 = .int .i64 k) (fun e _ => l.rows.length - iv (e 24)) ?_ ?_
  · exact ⟨0, rfl, Nat.zero_le _, rfl, rfl, rfl, rfl, rfl, rfl, rfl, rfl, rfl⟩
  · rintro J M Q' hJ hM hQ e S' ⟨k, rfl, hk, e1, e2, e6, e7, e8, e9, e22, e23, e24⟩
    simp -implicitDefEqProofs only [go_sem, ↓reduceIte, Nat.reduceEqDiff, Nat.reduceLT, Nat.reduceLeDiff, Nat.reduceAdd, Nat.reduceMul, Nat.reduceSub, reduceCtorEq, Nat.reduceMod, Nat.reduceBEq, Int.reduceBEq, Int.reduceBNe, Int.reduceToNat, e23, e24]
    by_cases hlt : k < l.rows.length
    · obtain ⟨y, hy⟩ : ∃ y, l.rows[k]? = some y := ⟨_, List.getElem?_eq_getElem hlt⟩
      have hin : (0 : Int) ≤ k ∧ (k : Int) < l.rows.length := by omega
      have hk1 : IntKind.i64.wrap ((k : Int) + 1) = ((k + 1 : Nat) : Int) := wrap64 (by omega) (by omega)
      have hstep : (l.rows.take (k + 1)).filter P = (l.rows.take k).filter P ++ (if P y = true then [y] else []) := by
        rw [List.take_add_one, hy, List.filter_append]
        simp only [Option.toList_some, List.filter_cons, List.filter_nil]
      simp -implicitDefEqProofs only [go_sem, ↓reduceIte, Nat.reduceEqDiff, Nat.reduceLT, Nat.reduceLeDiff, Nat.reduceAdd, Nat.reduceMul, Nat.reduceSub, reduceCtorEq, Nat.reduceMod, Nat.reduceBEq, Int.reduceBEq, Int.reduceBNe, Int.reduceToNat, hin, e1, e2, e6, e7, e8, e9, e22, e23, e24, getD_encL hy, encE]
      have no : P y = false → (l.rows.take (k + 1)).filter P = (l.rows.take k).filter P := fun h => by
        rw [hstep, h]; simp
      rcases (Bool.eq_false_or_eq_true (atF l x).2).symm with b1 | b1
      · simp -implicitDefEqProofs only [go_sem, ↓reduceIte, Nat.reduceEqDiff, Nat.reduceLT, Nat.reduceLeDiff, Nat.reduceAdd, Nat.reduceMul, Nat.reduceSub, reduceCtorEq, Nat.reduceMod, Nat.reduceBEq, Int.reduceBEq, Int.reduceBNe, Int.reduceToNat, b1, e24, hk1]
        refine vnext hJ hM (S.set id (some [.int .i64 x, .int .i64 t, .sl .tail 3 (encL ((l.rows.take k).filter P))])) (fun _ _ h => h) ⟨k + 1, by rw [no (by simp [hP, b1])], hlt, ?_, ?_, ?_, ?_, ?_, ?_, ?_, ?_, ?_⟩ ?_
        · simp -implicitDefEqProofs only [go_sem, ↓reduceIte, Nat.reduceEqDiff, Nat.reduceLT, Nat.reduceLeDiff, Nat.reduceAdd, Nat.reduceMul, Nat.reduceSub, reduceCtorEq, Nat.reduceMod, Nat.reduceBEq, Int.reduceBEq, Int.reduceBNe, Int.reduceToNat, e1]
        · simp -implicitDefEqProofs only [go_sem, ↓reduceIte, Nat.reduceEqDiff, Nat.reduceLT, Nat.reduceLeDiff, Nat.reduceAdd, Nat.reduceMul, Nat.reduceSub, reduceCtorEq, Nat.reduceMod, Nat.reduceBEq, Int.reduceBEq, Int.reduceBNe, Int.reduceToNat, e2]
        · simp -implicitDefEqProofs only [go_sem, ↓reduceIte, Nat.reduceEqDiff, Nat.reduceLT, Nat.reduceLeDiff, Nat.reduceAdd, Nat.reduceMul, Nat.reduceSub, reduceCtorEq, Nat.reduceMod, Nat.reduceBEq, Int.reduceBEq, Int.reduceBNe, Int.reduceToNat, e6]
        · simp -implicitDefEqProofs only [go_sem, ↓reduceIte, Nat.reduceEqDiff, Nat.reduceLT, Nat.reduceLeDiff, Nat.reduceAdd, Nat.reduceMul, Nat.reduceSub, reduceCtorEq, Nat.reduceMod, Nat.reduceBEq, Int.reduceBEq, Int.reduceBNe, Int.reduceToNat, e7]
        · simp -implicitDefEqProofs only [go_sem, ↓reduceIte, Nat.reduceEqDiff, Nat.reduceLT, Nat.reduceLeDiff, Nat.reduceAdd, Nat.reduceMul, Nat.reduceSub, reduceCtorEq, Nat.reduceMod, Nat.reduceBEq, Int.reduceBEq, Int.reduceBNe, Int.reduceToNat, e8]
        · simp -implicitDefEqProofs only [go_sem, ↓reduceIte, Nat.reduceEqDiff, Nat.reduceLT, Nat.reduceLeDiff, Nat.reduceAdd, Nat.reduceMul, Nat.reduceSub, reduceCtorEq, Nat.reduceMod, Nat.reduceBEq, Int.reduceBEq, Int.reduceBNe, Int.reduceToNat, e9, b1]
        · simp -implicitDefEqProofs only [go_sem, ↓reduceIte, Nat.reduceEqDiff, Nat.reduceLT, Nat.reduceLeDiff, Nat.reduceAdd, Nat.reduceMul, Nat.reduceSub, reduceCtorEq, Nat.reduceMod, Nat.reduceBEq, Int.reduceBEq, Int.reduceBNe, Int.reduceToNat, e22]
        · simp -implicitDefEqProofs only [go_sem, ↓reduceIte, Nat.reduceEqDiff, Nat.reduceLT, Nat.reduceLeDiff, Nat.reduceAdd, Nat.reduceMul, Nat.reduceSub, reduceCtorEq, Nat.reduceMod, Nat.reduceBEq, Int.reduceBEq, Int.reduceBNe, Int.reduceToNat, e23]
        · simp -implicitDefEqProofs only [go_sem, ↓reduceIte, Nat.reduceEqDiff, Nat.reduceLT, Nat.reduceLeDiff, Nat.reduceAdd, Nat.reduceMul, Nat.reduceSub, reduceCtorEq, Nat.reduceMod, Nat.reduceBEq, Int.reduceBEq, Int.reduceBNe, Int.reduceToNat]
        · simp -implicitDefEqProofs only [go_sem, ↓reduceIte, Nat.reduceEqDiff, Nat.reduceLT, Nat.reduceLeDiff, Nat.reduceAdd, Nat.reduceMul, Nat.reduceSub, reduceCtorEq, Nat.reduceMod, Nat.reduceBEq, Int.reduceBEq, Int.reduceBNe, Int.reduceToNat]
          omega
      · rcases (Bool.eq_false_or_eq_true ((atF l x).1 == t)).symm with b2 | b2
        · simp -implicitDefEqProofs only [go_sem, ↓reduceIte, Nat.reduceEqDiff, Nat.reduceLT, Nat.reduceLeDiff, Nat.reduceAdd, Nat.reduceMul, Nat.reduceSub, reduceCtorEq, Nat.reduceMod, Nat.reduceBEq, Int.reduceBEq, Int.reduceBNe, Int.reduceToNat, b1, b2, e1, e2, e6, e7, e8, e24, hk1]
          refine vnext hJ hM (S.set id (some [.int .i64 x, .int .i64 t, .sl .tail 3 (encL ((l.rows.take k).filter P))])) (fun _ _ h => h) ⟨k + 1, by rw [no (by simp [hP, b1, b2])], hlt, ?_, ?_, ?_, ?_, ?_, ?_, ?_, ?_, ?_⟩ ?_
          · simp -implicitDefEqProofs only [go_sem, ↓reduceIte, Nat.reduceEqDiff, Nat.reduceLT, Nat.reduceLeDiff, Nat.reduceAdd, Nat.reduceMul, Nat.reduceSub, reduceCtorEq, Nat.reduceMod, Nat.reduceBEq, Int.reduceBEq, Int.reduceBNe, Int.reduceToNat, e1]
          · simp -implicitDefEqProofs only [go_sem, ↓reduceIte, Nat.reduceEqDiff, Nat.reduceLT, Nat.reduceLeDiff, Nat.reduceAdd, Nat.reduceMul, Nat.reduceSub, reduceCtorEq, Nat.reduceMod, Nat.reduceBEq, Int.reduceBEq, Int.reduceBNe, Int.reduceToNat, e2]
          · simp -implicitDefEqProofs only [go_sem, ↓reduceIte, Nat.reduceEqDiff, Nat.reduceLT, Nat.reduceLeDiff, Nat.reduceAdd, Nat.reduceMul, Nat.reduceSub, reduceCtorEq, Nat.reduceMod, Nat.reduceBEq, Int.reduceBEq, Int.reduceBNe, Int.reduceToNat, e6]
          · simp -implicitDefEqProofs only [go_sem, ↓reduceIte, Nat.reduceEqDiff, Nat.reduceLT, Nat.reduceLeDiff, Nat.reduceAdd, Nat.reduceMul, Nat.reduceSub, reduceCtorEq, Nat.reduceMod, Nat.reduceBEq, Int.reduceBEq, Int.reduceBNe, Int.reduceToNat, e7]
          · simp -implicitDefEqProofs only [go_sem, ↓reduceIte, Nat.reduceEqDiff, Nat.reduceLT, Nat.reduceLeDiff, Nat.reduceAdd, Nat.reduceMul, Nat.reduceSub, reduceCtorEq, Nat.reduceMod, Nat.reduceBEq, Int.reduceBEq, Int.reduceBNe, Int.reduceToNat, e8]
          · simp -implicitDefEqProofs only [go_sem, ↓reduceIte, Nat.reduceEqDiff, Nat.reduceLT, Nat.reduceLeDiff, Nat.reduceAdd, Nat.reduceMul, Nat.reduceSub, reduceCtorEq, Nat.reduceMod, Nat.reduceBEq, Int.reduceBEq, Int.reduceBNe, Int.reduceToNat, e9, b1]
          · simp -implicitDefEqProofs only [go_sem, ↓reduceIte, Nat.reduceEqDiff, Nat.reduceLT, Nat.reduceLeDiff, Nat.reduceAdd, Nat.reduceMul, Nat.reduceSub, reduceCtorEq, Nat.reduceMod, Nat.reduceBEq, Int.reduceBEq, Int.reduceBNe, Int.reduceToNat, e22]
          · simp -implicitDefEqProofs only [go_sem, ↓reduceIte, Nat.reduceEqDiff, Nat.reduceLT, Nat.reduceLeDiff, Nat.reduceAdd, Nat.reduceMul, Nat.reduceSub, reduceCtorEq, Nat.reduceMod, Nat.reduceBEq, Int.reduceBEq, Int.reduceBNe, Int.reduceToNat, e23]
          · simp -implicitDefEqProofs only [go_sem, ↓reduceIte, Nat.reduceEqDiff, Nat.reduceLT, Nat.reduceLeDiff, Nat.reduceAdd, Nat.reduceMul, Nat.reduceSub, reduceCtorEq, Nat.reduceMod, Nat.reduceBEq, Int.reduceBEq, Int.reduceBNe, Int.reduceToNat]
          · simp -implicitDefEqProofs only [go_sem, ↓reduceIte, Nat.reduceEqDiff, Nat.reduceLT, Nat.reduceLeDiff, Nat.reduceAdd, Nat.reduceMul, Nat.reduceSub, reduceCtorEq, Nat.reduceMod, Nat.reduceBEq, Int.reduceBEq, Int.reduceBNe, Int.reduceToNat]
            omega
        · by_cases b3 : x < y.i
          · have hb : P y = true := by simp [hP, b1, b2, b3]
            rw [hb] at hstep
            simp only [if_true] at hstep
            have hfl : ((l.rows.take k).filter P).length ≤ k := Nat.le_trans (List.length_filter_le _ _) (by rw [List.length_take]; omega)
            generalize hq : ((l.rows.take k).filter P) = q at hstep hfl ⊢
            have hap : (q.length + 1) * 40 ≤ 140737488355328 ∧ q.length + 1 ≤ 140737488355328 := by omega
            simp -implicitDefEqProofs only [go_sem, ↓reduceIte, Nat.reduceEqDiff, Nat.reduceLT, Nat.reduceLeDiff, Nat.reduceAdd, Nat.reduceMul, Nat.reduceSub, reduceCtorEq, Nat.reduceMod, Nat.reduceBEq, Int.reduceBEq, Int.reduceBNe, Int.reduceToNat, b1, b2, b3, e1, e2, e6, e7, e8, e24, hk1, hap]
            refine vnext hJ hM (S.set id (some [.int .i64 x, .int .i64 t, .sl .tail 3 (encL (q ++ [y]))])) ?_ ⟨k + 1, by rw [hstep], hlt, ?_, ?_, ?_, ?_, ?_, ?_, ?_, ?_, ?_⟩ ?_
            · intro i c hi
              rw [encL_app] at hi
              exact hi
            · simp -implicitDefEqProofs only [go_sem, ↓reduceIte, Nat.reduceEqDiff, Nat.reduceLT, Nat.reduceLeDiff, Nat.reduceAdd, Nat.reduceMul, Nat.reduceSub, reduceCtorEq, Nat.reduceMod, Nat.reduceBEq, Int.reduceBEq, Int.reduceBNe, Int.reduceToNat, e1]
            · simp -implicitDefEqProofs only [go_sem, ↓reduceIte, Nat.reduceEqDiff, Nat.reduceLT, Nat.reduceLeDiff, Nat.reduceAdd, Nat.reduceMul, Nat.reduceSub, reduceCtorEq, Nat.reduceMod, Nat.reduceBEq, Int.reduceBEq, Int.reduceBNe, Int.reduceToNat, e2]
            · simp -implicitDefEqProofs only [go_sem, ↓reduceIte, Nat.reduceEqDiff, Nat.reduceLT, Nat.reduceLeDiff, Nat.reduceAdd, Nat.reduceMul, Nat.reduceSub, reduceCtorEq, Nat.reduceMod, Nat.reduceBEq, Int.reduceBEq, Int.reduceBNe, Int.reduceToNat, e6]
            · simp -implicitDefEqProofs only [go_sem, ↓reduceIte, Nat.reduceEqDiff, Nat.reduceLT, Nat.reduceLeDiff, Nat.reduceAdd, Nat.reduceMul, Nat.reduceSub, reduceCtorEq, Nat.reduceMod, Nat.reduceBEq, Int.reduceBEq, Int.reduceBNe, Int.reduceToNat, e7]
            · simp -implicitDefEqProofs only [go_sem, ↓reduceIte, Nat.reduceEqDiff, Nat.reduceLT, Nat.reduceLeDiff, Nat.reduceAdd, Nat.reduceMul, Nat.reduceSub, reduceCtorEq, Nat.reduceMod, Nat.reduceBEq, Int.reduceBEq, Int.reduceBNe, Int.reduceToNat, e8]
            · simp -implicitDefEqProofs only [go_sem, ↓reduceIte, Nat.reduceEqDiff, Nat.reduceLT, Nat.reduceLeDiff, Nat.reduceAdd, Nat.reduceMul, Nat.reduceSub, reduceCtorEq, Nat.reduceMod, Nat.reduceBEq, Int.reduceBEq, Int.reduceBNe, Int.reduceToNat, e9, b1]
            · simp -implicitDefEqProofs only [go_sem, ↓reduceIte, Nat.reduceEqDiff, Nat.reduceLT, Nat.reduceLeDiff, Nat.reduceAdd, Nat.reduceMul, Nat.reduceSub, reduceCtorEq, Nat.reduceMod, Nat.reduceBEq, Int.reduceBEq, Int.reduceBNe, Int.reduceToNat, e22]
            · simp -implicitDefEqProofs only [go_sem, ↓reduceIte, Nat.reduceEqDiff, Nat.reduceLT, Nat.reduceLeDiff, Nat.reduceAdd, Nat.reduceMul, Nat.reduceSub, reduceCtorEq, Nat.reduceMod, Nat.reduceBEq, Int.reduceBEq, Int.reduceBNe, Int.reduceToNat, e23]
            · simp -implicitDefEqProofs only [go_sem, ↓reduceIte, Nat.reduceEqDiff, Nat.reduceLT, Nat.reduceLeDiff, Nat.reduceAdd, Nat.reduceMul, Nat.reduceSub, reduceCtorEq, Nat.reduceMod, Nat.reduceBEq, Int.reduceBEq, Int.reduceBNe, Int.reduceToNat]
            · simp -implicitDefEqProofs only [go_sem, ↓reduceIte, Nat.reduceEqDiff, Nat.reduceLT, Nat.reduceLeDiff, Nat.reduceAdd, Nat.reduceMul, Nat.reduceSub, reduceCtorEq, Nat.reduceMod, Nat.reduceBEq, Int.reduceBEq, Int.reduceBNe, Int.reduceToNat]
              omega
          · simp -implicitDefEqProofs only [go_sem, ↓reduceIte, Nat.reduceEqDiff, Nat.reduceLT, Nat.reduceLeDiff, Nat.reduceAdd, Nat.reduceMul, Nat.reduceSub, reduceCtorEq, Nat.reduceMod, Nat.reduceBEq, Int.reduceBEq, Int.reduceBNe, Int.reduceToNat, b1, b2, b3, e1, e2, e6, e7, e8, e24, hk1]
            refine vnext hJ hM (S.set id (some [.int .i64 x, .int .i64 t, .sl .tail 3 (encL ((l.rows.take k).filter P))])) (fun _ _ h => h) ⟨k + 1, by rw [no (by simp [hP, b3])], hlt, ?_, ?_, ?_, ?_, ?_, ?_, ?_, ?_, ?_⟩ ?_
            · simp -implicitDefEqProofs only [go_sem, ↓reduceIte, Nat.reduceEqDiff, Nat.reduceLT, Nat.reduceLeDiff, Nat.reduceAdd, Nat.reduceMul, Nat.reduceSub, reduceCtorEq, Nat.reduceMod, Nat.reduceBEq, Int.reduceBEq, Int.reduceBNe, Int.reduceToNat, e1]
            · simp -implicitDefEqProofs only [go_sem, ↓reduceIte, Nat.reduceEqDiff, Nat.reduceLT, Nat.reduceLeDiff, Nat.reduceAdd, Nat.reduceMul, Nat.reduceSub, reduceCtorEq, Nat.reduceMod, Nat.reduceBEq, Int.reduceBEq, Int.reduceBNe, Int.reduceToNat, e2]
            · simp -implicitDefEqProofs only [go_sem, ↓reduceIte, Nat.reduceEqDiff, Nat.reduceLT, Nat.reduceLeDiff, Nat.reduceAdd, Nat.reduceMul, Nat.reduceSub, reduceCtorEq, Nat.reduceMod, Nat.reduceBEq, Int.reduceBEq, Int.reduceBNe, Int.reduceToNat, e6]
            · simp -implicitDefEqProofs only [go_sem, ↓reduceIte, Nat.reduceEqDiff, Nat.reduceLT, Nat.reduceLeDiff, Nat.reduceAdd, Nat.reduceMul, Nat.reduceSub, reduceCtorEq, Nat.reduceMod, Nat.reduceBEq, Int.reduceBEq, Int.reduceBNe, Int.reduceToNat, e7]
            · simp -implicitDefEqProofs only [go_sem, ↓reduceIte, Nat.reduceEqDiff, Nat.reduceLT, Nat.reduceLeDiff, Nat.reduceAdd, Nat.reduceMul, Nat.reduceSub, reduceCtorEq, Nat.reduceMod, Nat.reduceBEq, Int.reduceBEq, Int.reduceBNe, Int.reduceToNat, e8]
            · simp -implicitDefEqProofs only [go_sem, ↓reduceIte, Nat.reduceEqDiff, Nat.reduceLT, Nat.reduceLeDiff, Nat.reduceAdd, Nat.reduceMul, Nat.reduceSub, reduceCtorEq, Nat.reduceMod, Nat.reduceBEq, Int.reduceBEq, Int.reduceBNe, Int.reduceToNat, e9, b1]
            · simp -implicitDefEqProofs only [go_sem, ↓reduceIte, Nat.reduceEqDiff, Nat.reduceLT, Nat.reduceLeDiff, Nat.reduceAdd, Nat.reduceMul, Nat.reduceSub, reduceCtorEq, Nat.reduceMod, Nat.reduceBEq, Int.reduceBEq, Int.reduceBNe, Int.reduceToNat, e22]
            · simp -implicitDefEqProofs only [go_sem, ↓reduceIte, Nat.reduceEqDiff, Nat.reduceLT, Nat.reduceLeDiff, Nat.reduceAdd, Nat.reduceMul, Nat.reduceSub, reduceCtorEq, Nat.reduceMod, Nat.reduceBEq, Int.reduceBEq, Int.reduceBNe, Int.reduceToNat, e23]
            · simp -implicitDefEqProofs only [go_sem, ↓reduceIte, Nat.reduceEqDiff, Nat.reduceLT, Nat.reduceLeDiff, Nat.reduceAdd, Nat.reduceMul, Nat.reduceSub, reduceCtorEq, Nat.reduceMod, Nat.reduceBEq, Int.reduceBEq, Int.reduceBNe, Int.reduceToNat]
            · simp -implicitDefEqProofs only [go_sem, ↓reduceIte, Nat.reduceEqDiff, Nat.reduceLT, Nat.reduceLeDiff, Nat.reduceAdd, Nat.reduceMul, Nat.reduceSub, reduceCtorEq, Nat.reduceMod, Nat.reduceBEq, Int.reduceBEq, Int.reduceBNe, Int.reduceToNat]
              omega
    · have hcc : ¬ (k : Int) < l.rows.length := by omega
      simp -implicitDefEqProofs only [go_sem, ↓reduceIte, Nat.reduceEqDiff, Nat.reduceLT, Nat.reduceLeDiff, Nat.reduceAdd, Nat.reduceMul, Nat.reduceSub, reduceCtorEq, Nat.reduceMod, Nat.reduceBEq, Int.reduceBEq, Int.reduceBNe, Int.reduceToNat, hcc]
      refine hQ _ _ _ ?_
      simp -implicitDefEqProofs only [go_sem, ↓reduceIte, Nat.reduceEqDiff, Nat.reduceLT, Nat.reduceLeDiff, Nat.reduceAdd, Nat.reduceMul, Nat.reduceSub, reduceCtorEq, Nat.reduceMod, Nat.reduceBEq, Int.reduceBEq, Int.reduceBNe, Int.reduceToNat, e7, e6]
      rw [List.take_of_length_le (by omega)]
      rw [hcut] at hK
      exact ⟨S, set_drop hid (fun _ _ h => h), hK⟩

theorem hintDown_is {l : Lg} {T : Int} : ∀ (m k : Nat), k ≤ m → (∀ j : Nat, k ≤ j → j < m → (atF l (l.i + j + 1)).1 = T) → (k = 0 ∨ (atF l (l.i + ((k - 1 : Nat) : Int) + 1)).1 ≠ T) → hintDown l T m = l.i + k + 1
  | 0, k, hk, _, _ => by
    have : k = 0 := by omega
    subst this
    simp [hintDown]
  | m + 1, k, hk, h1, h2 => by
    unfold hintDown
    by_cases e : k = m + 1
    · subst e
      rcases h2 with h2 | h2
      · omega
      · rw [show m + 1 - 1 = m by omega] at h2
        rw [if_pos (by simpa using h2)]
        omega
    · rw [if_neg (by have := h1 m (by omega) (by omega); simpa using this)]
      exact hintDown_is m k (by omega) (fun j h3 h4 => h1 j h3 (by omega)) h2

def sameP (l : Lg) (at_ T : Int) (y : Ent) (z : Ent) : Bool := decide (z.i < y.i) || decide (at_ < z.i) || (z.t == T)

theorem hint_found {l : Lg} (h : chk l = true) {x : Int} (hx : x ≤ (lastF l.i l.t l.rows).1) {k : Nat} {y : Ent} (hy : l.rows[k]? = some y) (hk : y.i ≤ max x (l.i + 1))
    (h1 : l.rows.all (sameP l (max x (l.i + 1)) (atF l (max x (l.i + 1))).1 y) = true)
    (h2 : ∀ (j : Nat) (e : Ent), j < k → l.rows[j]? = some e → l.rows.all (sameP l (max x (l.i + 1)) (atF l (max x (l.i + 1))).1 e) = false ∨ max x (l.i + 1) < e.i) : hintF l x = y.i := by
  obtain ⟨c1, c2, c3, c4, hr⟩ := chk_iff h
  have hyi := (rise_get _ _ _ hr k y hy).1
  unfold hintF
  rw [if_neg (by omega)]
  generalize hat : max x (l.i + 1) = at_ at *
  have hlt := (List.getElem?_eq_some_iff.1 hy).1
  have hrow : ∀ (j : Nat) (e : Ent), l.rows[j]? = some e → (atF l (l.i + j + 1)).1 = e.t ∧ e.i = l.i + j + 1 := by
    intro j e he
    have hi := (rise_get _ _ _ hr j e he).1
    have := at_row h he
    rw [hi] at this
    exact ⟨by rw [this], hi⟩
  by_cases hx0 : x ≤ l.i
  · have : at_ = l.i + 1 := by omega
    have hk0 : k = 0 := by omega
    subst hk0
    rw [show (at_ - l.i - 1).toNat = 0 by omega]
    simp only [hintDown]
    omega
  · have hatx : at_ = x := by omega
    have hmx : max x l.i = x := by omega
    rw [hmx, ← hatx]
    have hall := fun (j : Nat) (e : Ent) (he : l.rows[j]? = some e) => List.all_eq_true.1 h1 e (List.mem_of_getElem? he)
    have hd := hintDown_is (T := (atF l at_).1) (l := l) (at_ - l.i - 1).toNat k (by omega) (fun j hj1 hj2 => ?_) ?_
    · rw [hd]; omega
    · have hn : j < l.rows.length := by
        rw [lastF_i _ _ _ hr] at hx
        omega
      obtain ⟨e, he⟩ : ∃ e, l.rows[j]? = some e := ⟨_, List.getElem?_eq_getElem hn⟩
      obtain ⟨q1, q2⟩ := hrow j e he
      rw [q1]
      have := hall j e he
      simp only [sameP, Bool.or_eq_true, decide_eq_true_eq, beq_iff_eq] at this
      rcases this with (h5 | h5) | h5
      · omega
      · omega
      · exact h5
    · by_cases hk0 : k = 0
      · exact .inl hk0
      · right
        intro heq
        obtain ⟨e, he⟩ : ∃ e, l.rows[k - 1]? = some e := ⟨_, List.getElem?_eq_getElem (by omega)⟩
        obtain ⟨q1, q2⟩ := hrow (k - 1) e he
        rcases h2 (k - 1) e (by omega) he with h5 | h5
        · have : l.rows.all (sameP l at_ (atF l at_).1 e) = true := by
            rw [List.all_eq_true]
            intro z hz
            obtain ⟨j, hj⟩ := List.mem_iff_getElem?.1 hz
            obtain ⟨r1, r2⟩ := hrow j z hj
            have h6 := hall j z hj
            simp only [sameP, Bool.or_eq_true, decide_eq_true_eq, beq_iff_eq] at h6 ⊢
            by_cases hjk : j < k - 1
            · left; left; omega
            · by_cases hjk2 : j = k - 1
              · subst hjk2
                rw [he] at hj
                injection hj with hj
                subst hj
                right
                rw [← q1]
                exact heq
              · rcases h6 with (h7 | h7) | h7
                · omega
                · left; right; exact h7
                · right; exact h7
          rw [this] at h5
          cases h5
        · omega

theorem hint_end {l : Lg} (h : chk l = true) {x : Int} (hx : x ≤ (lastF l.i l.t l.rows).1)
    (h2 : ∀ (j : Nat) (e : Ent), l.rows[j]? = some e → l.rows.all (sameP l (max x (l.i + 1)) (atF l (max x (l.i + 1))).1 e) = false ∨ max x (l.i + 1) < e.i) : hintF l x = max x (l.i + 1) := by
  obtain ⟨c1, c2, c3, c4, hr⟩ := chk_iff h
  rw [lastF_i _ _ _ hr] at hx
  by_cases hn : l.rows.length = 0
  · unfold hintF
    rw [if_neg (by rw [lastF_i _ _ _ hr]; omega)]
    have : (max x (l.i + 1) - l.i - 1).toNat = 0 := by omega
    rw [this]
    simp only [hintDown]
    omega
  · exfalso
    generalize hat : max x (l.i + 1) = at_ at *
    obtain ⟨e, he⟩ : ∃ e, l.rows[(at_ - l.i - 1).toNat]? = some e := ⟨_, List.getElem?_eq_getElem (by omega)⟩
    have hei := (rise_get _ _ _ hr _ e he).1
    rcases h2 _ e he with h5 | h5
    · have : l.rows.all (sameP l at_ (atF l at_).1 e) = true := by
        rw [List.all_eq_true]
        intro z hz
        obtain ⟨j, hj⟩ := List.mem_iff_getElem?.1 hz
        have hzi := (rise_get _ _ _ hr j z hj).1
        simp only [sameP, Bool.or_eq_true, decide_eq_true_eq, beq_iff_eq]
        by_cases h6 : j = (at_ - l.i - 1).toNat
        · right
          have := at_row h hj
          rw [show at_ = z.i by omega, this]
        · left; omega
      rw [this] at h5
      cases h5
    · omega
end Go.Proofs.Ytjdfajibflodbaa.V
