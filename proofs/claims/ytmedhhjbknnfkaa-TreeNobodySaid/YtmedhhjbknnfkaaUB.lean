/- Trees: joined, and split. -/
import Derived.Test.YtmedhhjbknnfkaaUA
set_option linter.unusedVariables false
set_option linter.unusedSimpArgs false
namespace Go.Proofs.Ytmedhhjbknnfkaa.V
open Go Go.VL

def joinQ (A B : List Pr) : Bool := A.all fun p => B.all fun q => lt p.1 q.1
theorem joinQ_iff {A B : List Pr} : joinQ A B = true ↔ ∀ p ∈ A, ∀ q ∈ B, lt p.1 q.1 = true := by simp [joinQ]
theorem sorted_join {A B : List Pr} (hA : Sorted A) (hB : Sorted B) (h : joinQ A B = true) : Sorted (A ++ B) := by
  unfold Sorted
  rw [List.pairwise_append]
  exact ⟨hA, hB, joinQ_iff.1 h⟩
theorem joinQ_ends {A B : List Pr} {p q : Pr} (hA : Sorted A) (hB : Sorted B) (hp : A[A.length - 1]? = some p) (hq : B[0]? = some q) : joinQ A B = lt p.1 q.1 := by
  have le : ∀ a ∈ A, a = p ∨ lt a.1 p.1 = true := by
    intro a ha
    obtain ⟨i, hi, rfl⟩ := List.mem_iff_getElem.1 ha
    obtain ⟨hj, rfl⟩ := List.getElem?_eq_some_iff.1 hp
    rcases Nat.lt_or_ge i (A.length - 1) with h | h
    · exact .inr (List.pairwise_iff_getElem.1 hA i (A.length - 1) hi hj h)
    · left; congr 1; omega
  have ge : ∀ b ∈ B, b = q ∨ lt q.1 b.1 = true := by
    intro b hb
    cases B with
    | nil => cases hb
    | cons c B =>
      simp at hq
      subst hq
      rcases List.mem_cons.1 hb with rfl | hb
      · exact .inl rfl
      · exact .inr ((List.pairwise_cons.1 hB).1 b hb)
  cases h : lt p.1 q.1 with
  | true =>
    rw [joinQ_iff]
    intro a ha b hb
    have h1 : lt a.1 q.1 = true := by
      rcases le a ha with rfl | h2
      · exact h
      · exact lt_trans h2 h
    rcases ge b hb with rfl | h2
    · exact h1
    · exact lt_trans h1 h2
  | false =>
    cases e : joinQ A B with
    | false => rfl
    | true =>
      have := joinQ_iff.1 e p (List.mem_of_getElem? hp) q (List.mem_of_getElem? hq)
      rw [h] at this
      cases this

theorem Join_spec {p q : PV} {a b : T} (hp0 : Tr p a) (hq0 : Tr q b) (hoa : Ok a) (hob : Ok b) (hsa : Sorted a.list) (hsb : Sorted b.list) (hn : a.list.length + b.list.length ≤ 900000) :
    ∃ r, Ok r ∧ r.list = a.list ++ b.list ∧ ∀ S, PRet Try.prog 47 [p, q] S (.tup [if joinQ a.list b.list then .ip [enc r] 0 else .nilp, .bool (joinQ a.list b.list)]) := by
  have hp : p.bare = p := by rcases hp0 with ⟨rfl, rfl⟩ | rfl <;> rfl
  have hq : q.bare = q := by rcases hq0 with ⟨rfl, rfl⟩ | rfl <;> rfl
  obtain ⟨r, r1, r2, r3⟩ := glue_spec hoa hob (by omega)
  refine ⟨r, r1, r2, fun S K hK => ?_⟩
  obtain ⟨za, _, _⟩ := ok_size a hoa
  have fin : joinQ a.list b.list = true → K (.tup [.ip [enc r] 0, .bool true]) S := fun h => by rw [h] at hK; exact hK
  refine pcalls_of (C := C) (fun _ => false) (fun _ => false) Try.func47 rfl rfl (by simp [Try.f47]) ?_
  simp -implicitDefEqProofs only [go_sem, ↓reduceIte, Nat.reduceEqDiff, Nat.reduceLT, Nat.reduceLeDiff, Nat.reduceAdd, Nat.reduceMul, Nat.reduceSub, reduceCtorEq, Nat.reduceMod, Nat.reduceBEq, Int.reduceBEq, Int.reduceBNe, Int.reduceToNat, Try.f47, hp, hq]
  refine top_spec hp0 _ _ ?_
  simp -implicitDefEqProofs only [go_sem, ↓reduceIte, Nat.reduceEqDiff, Nat.reduceLT, Nat.reduceLeDiff, Nat.reduceAdd, Nat.reduceMul, Nat.reduceSub, reduceCtorEq, Nat.reduceMod, Nat.reduceBEq, Int.reduceBEq, Int.reduceBNe, Int.reduceToNat, hq]
  refine top_spec hq0 _ _ ?_
  cases a with
  | nil =>
    simp -implicitDefEqProofs only [go_sem, ↓reduceIte, Nat.reduceEqDiff, Nat.reduceLT, Nat.reduceLeDiff, Nat.reduceAdd, Nat.reduceMul, Nat.reduceSub, reduceCtorEq, Nat.reduceMod, Nat.reduceBEq, Int.reduceBEq, Int.reduceBNe, Int.reduceToNat, enc_nil]
    refine r3 _ _ ?_
    simp -implicitDefEqProofs only [go_sem, ↓reduceIte, Nat.reduceEqDiff, Nat.reduceLT, Nat.reduceLeDiff, Nat.reduceAdd, Nat.reduceMul, Nat.reduceSub, reduceCtorEq, Nat.reduceMod, Nat.reduceBEq, Int.reduceBEq, Int.reduceBNe, Int.reduceToNat]
    exact ⟨S, fun _ _ h => h, fin rfl⟩
  | node k v l m d s =>
    cases b with
    | nil =>
      simp -implicitDefEqProofs only [go_sem, ↓reduceIte, Nat.reduceEqDiff, Nat.reduceLT, Nat.reduceLeDiff, Nat.reduceAdd, Nat.reduceMul, Nat.reduceSub, reduceCtorEq, Nat.reduceMod, Nat.reduceBEq, Int.reduceBEq, Int.reduceBNe, Int.reduceToNat, enc_node, enc_nil]
      refine r3 _ _ ?_
      simp -implicitDefEqProofs only [go_sem, ↓reduceIte, Nat.reduceEqDiff, Nat.reduceLT, Nat.reduceLeDiff, Nat.reduceAdd, Nat.reduceMul, Nat.reduceSub, reduceCtorEq, Nat.reduceMod, Nat.reduceBEq, Int.reduceBEq, Int.reduceBNe, Int.reduceToNat]
      exact ⟨S, fun _ _ h => h, fin (by simp [joinQ, T.list])⟩
    | node k' v' l' m' d' s' =>
      have la : 0 < (T.node k v l m d s).list.length := by simp [T.list]; omega
      have lb : 0 < (T.node k' v' l' m' d' s').list.length := by simp [T.list]; omega
      rw [enc_node, enc_node]
      simp -implicitDefEqProofs only [go_sem, ↓reduceIte, Nat.reduceEqDiff, Nat.reduceLT, Nat.reduceLeDiff, Nat.reduceAdd, Nat.reduceMul, Nat.reduceSub, reduceCtorEq, Nat.reduceMod, Nat.reduceBEq, Int.reduceBEq, Int.reduceBNe, Int.reduceToNat, hp, hq]
      refine len_spec hp0 _ _ ?_
      obtain ⟨x, hx⟩ : ∃ x, (T.node k v l m d s).list[(T.node k v l m d s).list.length - 1]? = some x := ⟨_, List.getElem?_eq_getElem (by omega)⟩
      obtain ⟨y, hy⟩ : ∃ y, (T.node k' v' l' m' d' s').list[0]? = some y := ⟨_, List.getElem?_eq_getElem lb⟩
      have hw : IntKind.i64.wrap ((T.node k v l m d s).siz - 1) = (T.node k v l m d s).siz - 1 := wrap64 (by omega) (by omega)
      have ha : atL (T.node k v l m d s).list ((T.node k v l m d s).siz - 1) = some x := by
        unfold atL
        rw [if_pos (by omega), show ((T.node k v l m d s).siz - 1).toNat = (T.node k v l m d s).list.length - 1 by omega]
        exact hx
      have hb : atL (T.node k' v' l' m' d' s').list 0 = some y := by
        unfold atL
        rw [if_pos (by omega)]
        exact hy
      have hj := joinQ_ends hsa hsb hx hy
      simp -implicitDefEqProofs only [go_sem, ↓reduceIte, Nat.reduceEqDiff, Nat.reduceLT, Nat.reduceLeDiff, Nat.reduceAdd, Nat.reduceMul, Nat.reduceSub, reduceCtorEq, Nat.reduceMod, Nat.reduceBEq, Int.reduceBEq, Int.reduceBNe, Int.reduceToNat, hw, hp]
      refine At_spec hp0 hoa (by omega) _ _ _ ?_
      rw [ha, encOp]
      simp -implicitDefEqProofs only [go_sem, ↓reduceIte, Nat.reduceEqDiff, Nat.reduceLT, Nat.reduceLeDiff, Nat.reduceAdd, Nat.reduceMul, Nat.reduceSub, reduceCtorEq, Nat.reduceMod, Nat.reduceBEq, Int.reduceBEq, Int.reduceBNe, Int.reduceToNat, hq]
      refine At_spec hq0 hob (by omega) _ _ _ ?_
      rw [hb, encOp]
      rcases (Bool.eq_false_or_eq_true (lt x.1 y.1)).symm with c | c
      · have c' : (lt y.1 x.1 || same y.1 x.1) = true := by rw [lt_or_same, c]; rfl
        rw [hj, c] at hK
        simp -implicitDefEqProofs only [go_sem, ↓reduceIte, Nat.reduceEqDiff, Nat.reduceLT, Nat.reduceLeDiff, Nat.reduceAdd, Nat.reduceMul, Nat.reduceSub, reduceCtorEq, Nat.reduceMod, Nat.reduceBEq, Int.reduceBEq, Int.reduceBNe, Int.reduceToNat, c, c']
        exact ⟨S, fun _ _ h => h, hK⟩
      · have c' : (lt y.1 x.1 || same y.1 x.1) = false := by rw [lt_or_same, c]; rfl
        simp -implicitDefEqProofs only [go_sem, ↓reduceIte, Nat.reduceEqDiff, Nat.reduceLT, Nat.reduceLeDiff, Nat.reduceAdd, Nat.reduceMul, Nat.reduceSub, reduceCtorEq, Nat.reduceMod, Nat.reduceBEq, Int.reduceBEq, Int.reduceBNe, Int.reduceToNat, c, c']
        rw [← enc_node, ← enc_node]
        refine r3 _ _ ?_
        simp -implicitDefEqProofs only [go_sem, ↓reduceIte, Nat.reduceEqDiff, Nat.reduceLT, Nat.reduceLeDiff, Nat.reduceAdd, Nat.reduceMul, Nat.reduceSub, reduceCtorEq, Nat.reduceMod, Nat.reduceBEq, Int.reduceBEq, Int.reduceBNe, Int.reduceToNat]
        exact ⟨S, fun _ _ h => h, fin (by rw [hj, c])⟩

set_option maxHeartbeats 1000000 in
theorem RJoin_spec (A B : List Pr) (hA : A.length ≤ 1000000) (hB : B.length ≤ 1000000) (S : Store) : PRet Try.prog 48 [.sl .no 2 (encPs A), .sl .no 2 (encPs B)] S (.tup [.sl .no 2 (if joinQ A B then encPs (A ++ B) else []), .bool (joinQ A B)]) := by
  intro K hK
  refine pcalls_of (C := C) (fun _ => false) (fun _ => false) Try.func48 rfl rfl (by simp [Try.f48]) ?_
  simp -implicitDefEqProofs only [go_sem, ↓reduceIte, Nat.reduceEqDiff, Nat.reduceLT, Nat.reduceLeDiff, Nat.reduceAdd, Nat.reduceMul, Nat.reduceSub, reduceCtorEq, Nat.reduceMod, Nat.reduceBEq, Int.reduceBEq, Int.reduceBNe, Int.reduceToNat, Try.f48]
  refine vloop (fun e S' => S' = S ∧ ∃ (k : Nat), k ≤ A.length ∧ joinQ A B = joinQ (A.drop k) B ∧ e 0 = .sl .no 2 (encPs A) ∧ e 1 = .sl .no 2 (encPs B) ∧ e 10 = .sl .no 2 (encPs A) ∧ e 11 = .int .i64 A.length ∧ e 12 = .int .i64 k) (fun e _ => A.length - iv (e 12)) ?_ ?_
  · exact ⟨rfl, 0, Nat.zero_le _, rfl, rfl, rfl, rfl, rfl, rfl⟩
  · rintro J M Q' hJ hM hQ e S' ⟨rfl, k, hk, hj, e0, e1, e10, e11, e12⟩
    by_cases hlt : k < A.length
    · obtain ⟨p, hp⟩ : ∃ p, A[k]? = some p := ⟨_, List.getElem?_eq_getElem hlt⟩
      have hin : (0 : Int) ≤ k ∧ (k : Int) < A.length := by omega
      have hk1 : IntKind.i64.wrap ((k : Int) + 1) = ((k + 1 : Nat) : Int) := wrap64 (by omega) (by omega)
      rw [drop_cons hp] at hj
      have hj0 : joinQ (p :: A.drop (k + 1)) B = ((B.all fun q => lt p.1 q.1) && joinQ (A.drop (k + 1)) B) := rfl
      rw [hj0] at hj
      simp -implicitDefEqProofs only [go_sem, ↓reduceIte, Nat.reduceEqDiff, Nat.reduceLT, Nat.reduceLeDiff, Nat.reduceAdd, Nat.reduceMul, Nat.reduceSub, reduceCtorEq, Nat.reduceMod, Nat.reduceBEq, Int.reduceBEq, Int.reduceBNe, Int.reduceToNat, hin, hlt, e0, e1, e10, e11, e12, getD_encPs hp]
      refine vloop (fun e S2 => S2 = S' ∧ ∃ (i : Nat), i ≤ B.length ∧ (B.all fun q => lt p.1 q.1) = ((B.drop i).all fun q => lt p.1 q.1) ∧ e 0 = .sl .no 2 (encPs A) ∧ e 1 = .sl .no 2 (encPs B) ∧ e 10 = .sl .no 2 (encPs A) ∧ e 11 = .int .i64 A.length ∧ e 12 = .int .i64 k ∧ e 7 = .ip [.str p.1, .str p.2] 0 ∧ e 16 = .sl .no 2 (encPs B) ∧ e 17 = .int .i64 B.length ∧ e 18 = .int .i64 i) (fun e _ => B.length - iv (e 18)) ?_ ?_
      · exact ⟨rfl, 0, Nat.zero_le _, rfl, by simp -implicitDefEqProofs only [go_sem, ↓reduceIte, Nat.reduceEqDiff, Nat.reduceLT, Nat.reduceLeDiff, Nat.reduceAdd, Nat.reduceMul, Nat.reduceSub, reduceCtorEq, Nat.reduceMod, Nat.reduceBEq, Int.reduceBEq, Int.reduceBNe, Int.reduceToNat, e0], by simp -implicitDefEqProofs only [go_sem, ↓reduceIte, Nat.reduceEqDiff, Nat.reduceLT, Nat.reduceLeDiff, Nat.reduceAdd, Nat.reduceMul, Nat.reduceSub, reduceCtorEq, Nat.reduceMod, Nat.reduceBEq, Int.reduceBEq, Int.reduceBNe, Int.reduceToNat, e1], by simp -implicitDefEqProofs only [go_sem, ↓reduceIte, Nat.reduceEqDiff, Nat.reduceLT, Nat.reduceLeDiff, Nat.reduceAdd, Nat.reduceMul, Nat.reduceSub, reduceCtorEq, Nat.reduceMod, Nat.reduceBEq, Int.reduceBEq, Int.reduceBNe, Int.reduceToNat, e10], by simp -implicitDefEqProofs only [go_sem, ↓reduceIte, Nat.reduceEqDiff, Nat.reduceLT, Nat.reduceLeDiff, Nat.reduceAdd, Nat.reduceMul, Nat.reduceSub, reduceCtorEq, Nat.reduceMod, Nat.reduceBEq, Int.reduceBEq, Int.reduceBNe, Int.reduceToNat, e11], by simp -implicitDefEqProofs only [go_sem, ↓reduceIte, Nat.reduceEqDiff, Nat.reduceLT, Nat.reduceLeDiff, Nat.reduceAdd, Nat.reduceMul, Nat.reduceSub, reduceCtorEq, Nat.reduceMod, Nat.reduceBEq, Int.reduceBEq, Int.reduceBNe, Int.reduceToNat, e12], by simp -implicitDefEqProofs only [go_sem, ↓reduceIte, Nat.reduceEqDiff, Nat.reduceLT, Nat.reduceLeDiff, Nat.reduceAdd, Nat.reduceMul, Nat.reduceSub, reduceCtorEq, Nat.reduceMod, Nat.reduceBEq, Int.reduceBEq, Int.reduceBNe, Int.reduceToNat], by simp -implicitDefEqProofs only [go_sem, ↓reduceIte, Nat.reduceEqDiff, Nat.reduceLT, Nat.reduceLeDiff, Nat.reduceAdd, Nat.reduceMul, Nat.reduceSub, reduceCtorEq, Nat.reduceMod, Nat.reduceBEq, Int.reduceBEq, Int.reduceBNe, Int.reduceToNat], by simp -implicitDefEqProofs only [go_sem, ↓reduceIte, Nat.reduceEqDiff, Nat.reduceLT, Nat.reduceLeDiff, Nat.reduceAdd, Nat.reduceMul, Nat.reduceSub, reduceCtorEq, Nat.reduceMod, Nat.reduceBEq, Int.reduceBEq, Int.reduceBNe, Int.reduceToNat], by simp -implicitDefEqProofs only [go_sem, ↓reduceIte, Nat.reduceEqDiff, Nat.reduceLT, Nat.reduceLeDiff, Nat.reduceAdd, Nat.reduceMul, Nat.reduceSub, reduceCtorEq, Nat.reduceMod, Nat.reduceBEq, Int.reduceBEq, Int.reduceBNe, Int.reduceToNat]⟩
      · rintro J2 M2 Q2 hJ2 hM2 hQ2 e' S2 ⟨rfl, i, hi, hall, g0, g1, g10, g11, g12, g7, g16, g17, g18⟩
        by_cases hl2 : i < B.length
        · obtain ⟨q, hq⟩ : ∃ q, B[i]? = some q := ⟨_, List.getElem?_eq_getElem hl2⟩
          rw [drop_cons hq, List.all_cons] at hall
          have hin2 : (0 : Int) ≤ i ∧ (i : Int) < B.length := by omega
          have hi1 : IntKind.i64.wrap ((i : Int) + 1) = ((i + 1 : Nat) : Int) := wrap64 (by omega) (by omega)
          rcases (Bool.eq_false_or_eq_true (lt p.1 q.1)).symm with c | c
          · have c' : (lt q.1 p.1 || same q.1 p.1) = true := by rw [lt_or_same, c]; rfl
            rw [c] at hall
            rw [hall] at hj
            simp only [Bool.false_and] at hj
            rw [hj] at hK
            simp -implicitDefEqProofs only [go_sem, ↓reduceIte, Nat.reduceEqDiff, Nat.reduceLT, Nat.reduceLeDiff, Nat.reduceAdd, Nat.reduceMul, Nat.reduceSub, reduceCtorEq, Nat.reduceMod, Nat.reduceBEq, Int.reduceBEq, Int.reduceBNe, Int.reduceToNat, hin2, hl2, g7, g16, g17, g18, getD_encPs hq, c, c']
            refine hQ2 _ _ _ ?_
            refine hQ _ _ _ ?_
            simp -implicitDefEqProofs only [go_sem, ↓reduceIte, Nat.reduceEqDiff, Nat.reduceLT, Nat.reduceLeDiff, Nat.reduceAdd, Nat.reduceMul, Nat.reduceSub, reduceCtorEq, Nat.reduceMod, Nat.reduceBEq, Int.reduceBEq, Int.reduceBNe, Int.reduceToNat]
            exact ⟨S2, fun _ _ h => h, hK⟩
          · have c' : (lt q.1 p.1 || same q.1 p.1) = false := by rw [lt_or_same, c]; rfl
            rw [c] at hall
            simp only [Bool.true_and] at hall
            simp -implicitDefEqProofs only [go_sem, ↓reduceIte, Nat.reduceEqDiff, Nat.reduceLT, Nat.reduceLeDiff, Nat.reduceAdd, Nat.reduceMul, Nat.reduceSub, reduceCtorEq, Nat.reduceMod, Nat.reduceBEq, Int.reduceBEq, Int.reduceBNe, Int.reduceToNat, hin2, hl2, g7, g16, g17, g18, getD_encPs hq, c, c', hi1]
            refine vnext hJ2 hM2 S2 (fun _ _ h => h) ⟨rfl, i + 1, hl2, hall, ?_, ?_, ?_, ?_, ?_, ?_, ?_, ?_, ?_⟩ ?_
            · simp -implicitDefEqProofs only [go_sem, ↓reduceIte, Nat.reduceEqDiff, Nat.reduceLT, Nat.reduceLeDiff, Nat.reduceAdd, Nat.reduceMul, Nat.reduceSub, reduceCtorEq, Nat.reduceMod, Nat.reduceBEq, Int.reduceBEq, Int.reduceBNe, Int.reduceToNat, g0]
            · simp -implicitDefEqProofs only [go_sem, ↓reduceIte, Nat.reduceEqDiff, Nat.reduceLT, Nat.reduceLeDiff, Nat.reduceAdd, Nat.reduceMul, Nat.reduceSub, reduceCtorEq, Nat.reduceMod, Nat.reduceBEq, Int.reduceBEq, Int.reduceBNe, Int.reduceToNat, g1]
            · simp -implicitDefEqProofs only [go_sem, ↓reduceIte, Nat.reduceEqDiff, Nat.reduceLT, Nat.reduceLeDiff, Nat.reduceAdd, Nat.reduceMul, Nat.reduceSub, reduceCtorEq, Nat.reduceMod, Nat.reduceBEq, Int.reduceBEq, Int.reduceBNe, Int.reduceToNat, g10]
            · simp -implicitDefEqProofs only [go_sem, ↓reduceIte, Nat.reduceEqDiff, Nat.reduceLT, Nat.reduceLeDiff, Nat.reduceAdd, Nat.reduceMul, Nat.reduceSub, reduceCtorEq, Nat.reduceMod, Nat.reduceBEq, Int.reduceBEq, Int.reduceBNe, Int.reduceToNat, g11]
            · simp -implicitDefEqProofs only [go_sem, ↓reduceIte, Nat.reduceEqDiff, Nat.reduceLT, Nat.reduceLeDiff, Nat.reduceAdd, Nat.reduceMul, Nat.reduceSub, reduceCtorEq, Nat.reduceMod, Nat.reduceBEq, Int.reduceBEq, Int.reduceBNe, Int.reduceToNat, g12]
            · simp -implicitDefEqProofs only [go_sem, ↓reduceIte, Nat.reduceEqDiff, Nat.reduceLT, Nat.reduceLeDiff, Nat.reduceAdd, Nat.reduceMul, Nat.reduceSub, reduceCtorEq, Nat.reduceMod, Nat.reduceBEq, Int.reduceBEq, Int.reduceBNe, Int.reduceToNat, g7]
            · simp -implicitDefEqProofs only [go_sem, ↓reduceIte, Nat.reduceEqDiff, Nat.reduceLT, Nat.reduceLeDiff, Nat.reduceAdd, Nat.reduceMul, Nat.reduceSub, reduceCtorEq, Nat.reduceMod, Nat.reduceBEq, Int.reduceBEq, Int.reduceBNe, Int.reduceToNat, g16]
            · simp -implicitDefEqProofs only [go_sem, ↓reduceIte, Nat.reduceEqDiff, Nat.reduceLT, Nat.reduceLeDiff, Nat.reduceAdd, Nat.reduceMul, Nat.reduceSub, reduceCtorEq, Nat.reduceMod, Nat.reduceBEq, Int.reduceBEq, Int.reduceBNe, Int.reduceToNat, g17]
            · simp -implicitDefEqProofs only [go_sem, ↓reduceIte, Nat.reduceEqDiff, Nat.reduceLT, Nat.reduceLeDiff, Nat.reduceAdd, Nat.reduceMul, Nat.reduceSub, reduceCtorEq, Nat.reduceMod, Nat.reduceBEq, Int.reduceBEq, Int.reduceBNe, Int.reduceToNat]
            · simp -implicitDefEqProofs only [go_sem, ↓reduceIte, Nat.reduceEqDiff, Nat.reduceLT, Nat.reduceLeDiff, Nat.reduceAdd, Nat.reduceMul, Nat.reduceSub, reduceCtorEq, Nat.reduceMod, Nat.reduceBEq, Int.reduceBEq, Int.reduceBNe, Int.reduceToNat, g18]
              omega
        · have hcc : ¬ (i : Int) < B.length := by omega
          rw [List.drop_of_length_le (by omega)] at hall
          rw [hall] at hj
          simp only [List.all_nil, Bool.true_and] at hj
          simp -implicitDefEqProofs only [go_sem, ↓reduceIte, Nat.reduceEqDiff, Nat.reduceLT, Nat.reduceLeDiff, Nat.reduceAdd, Nat.reduceMul, Nat.reduceSub, reduceCtorEq, Nat.reduceMod, Nat.reduceBEq, Int.reduceBEq, Int.reduceBNe, Int.reduceToNat, hcc, g17, g18]
          refine hQ2 _ _ _ ?_
          simp -implicitDefEqProofs only [go_sem, ↓reduceIte, Nat.reduceEqDiff, Nat.reduceLT, Nat.reduceLeDiff, Nat.reduceAdd, Nat.reduceMul, Nat.reduceSub, reduceCtorEq, Nat.reduceMod, Nat.reduceBEq, Int.reduceBEq, Int.reduceBNe, Int.reduceToNat, g12, hk1]
          refine vnext hJ hM S2 (fun _ _ h => h) ⟨rfl, k + 1, hlt, hj, ?_, ?_, ?_, ?_, ?_⟩ ?_
          · simp -implicitDefEqProofs only [go_sem, ↓reduceIte, Nat.reduceEqDiff, Nat.reduceLT, Nat.reduceLeDiff, Nat.reduceAdd, Nat.reduceMul, Nat.reduceSub, reduceCtorEq, Nat.reduceMod, Nat.reduceBEq, Int.reduceBEq, Int.reduceBNe, Int.reduceToNat, g0]
          · simp -implicitDefEqProofs only [go_sem, ↓reduceIte, Nat.reduceEqDiff, Nat.reduceLT, Nat.reduceLeDiff, Nat.reduceAdd, Nat.reduceMul, Nat.reduceSub, reduceCtorEq, Nat.reduceMod, Nat.reduceBEq, Int.reduceBEq, Int.reduceBNe, Int.reduceToNat, g1]
          · simp -implicitDefEqProofs only [go_sem, ↓reduceIte, Nat.reduceEqDiff, Nat.reduceLT, Nat.reduceLeDiff, Nat.reduceAdd, Nat.reduceMul, Nat.reduceSub, reduceCtorEq, Nat.reduceMod, Nat.reduceBEq, Int.reduceBEq, Int.reduceBNe, Int.reduceToNat, g10]
          · simp -implicitDefEqProofs only [go_sem, ↓reduceIte, Nat.reduceEqDiff, Nat.reduceLT, Nat.reduceLeDiff, Nat.reduceAdd, Nat.reduceMul, Nat.reduceSub, reduceCtorEq, Nat.reduceMod, Nat.reduceBEq, Int.reduceBEq, Int.reduceBNe, Int.reduceToNat, g11]
          · simp -implicitDefEqProofs only [go_sem, ↓reduceIte, Nat.reduceEqDiff, Nat.reduceLT, Nat.reduceLeDiff, Nat.reduceAdd, Nat.reduceMul, Nat.reduceSub, reduceCtorEq, Nat.reduceMod, Nat.reduceBEq, Int.reduceBEq, Int.reduceBNe, Int.reduceToNat]
          · simp -implicitDefEqProofs only [go_sem, ↓reduceIte, Nat.reduceEqDiff, Nat.reduceLT, Nat.reduceLeDiff, Nat.reduceAdd, Nat.reduceMul, Nat.reduceSub, reduceCtorEq, Nat.reduceMod, Nat.reduceBEq, Int.reduceBEq, Int.reduceBNe, Int.reduceToNat, e12]
            omega
    · have hcc : ¬ (k : Int) < A.length := by omega
      rw [List.drop_of_length_le (by omega)] at hj
      have hjt : joinQ A B = true := by rw [hj]; rfl
      rw [hjt] at hK
      have hap := small32 (k := A.length) (by omega)
      have hap2 := small32 (k := A.length + B.length) (by omega)
      simp -implicitDefEqProofs only [go_sem, ↓reduceIte, Nat.reduceEqDiff, Nat.reduceLT, Nat.reduceLeDiff, Nat.reduceAdd, Nat.reduceMul, Nat.reduceSub, reduceCtorEq, Nat.reduceMod, Nat.reduceBEq, Int.reduceBEq, Int.reduceBNe, Int.reduceToNat, hcc, e11, e12]
      refine hQ _ _ _ ?_
      simp -implicitDefEqProofs only [go_sem, ↓reduceIte, Nat.reduceEqDiff, Nat.reduceLT, Nat.reduceLeDiff, Nat.reduceAdd, Nat.reduceMul, Nat.reduceSub, reduceCtorEq, Nat.reduceMod, Nat.reduceBEq, Int.reduceBEq, Int.reduceBNe, Int.reduceToNat, e0, e1, hap, hap2, List.length_append, len_encPs]
      have he : encPs A ++ encPs B = encPs (A ++ B) := (encPs_app A B).symm
      simp only [he]
      exact ⟨S', fun _ _ h => h, hK⟩
end Go.Proofs.Ytmedhhjbknnfkaa.V
