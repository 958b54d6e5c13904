/- Trees: TreeSets and TreeStays. -/
import Derived.Test.YtmedhhjbknnfkaaUK
import Derived.Test.YtmedhhjbknnfkaaUE
import Derived.Test.YtmedhhjbknnfkaaUA
set_option linter.unusedVariables false
set_option linter.unusedSimpArgs false
namespace Go.Proofs.Ytmedhhjbknnfkaa.V
open Go Go.VL

theorem minus_both_len (B : List Pr) : ∀ A : List Pr, (minusL A B).length + (bothL A B).length = A.length
  | [] => rfl
  | p :: A => by
    have ih := minus_both_len B A
    unfold minusL bothL at ih ⊢
    rw [List.filter_cons, List.filter_cons]
    cases look p.1 B <;> simp <;> omega
theorem union_len : ∀ (B A : List Pr), Sorted A → Sorted B → (unionL A B).length = (minusL A B).length + B.length
  | [], A, _, _ => by rw [minusL_nil]; rfl
  | p :: B, A, hA, hB => by
    have hp := List.pairwise_cons.1 hB
    have ih := union_len B (putL p.1 p.2 A) (sorted_put hA _ _) hp.2
    have e0 : unionL A (p :: B) = unionL (putL p.1 p.2 A) B := rfl
    have hn : look p.1 B = none := look_none fun a ha => same_gt (hp.1 a ha)
    have f1 : minusL (below p.1 A) (p :: B) = minusL (below p.1 A) B := filter_congr' fun q hq => by
      rw [look, same_gt (mem_below.1 hq).2]; rfl
    have f2 : minusL (above p.1 A) (p :: B) = minusL (above p.1 A) B := filter_congr' fun q hq => by
      rw [look, same_lt (mem_above.1 hq).2]; rfl
    have e1 : (minusL (putL p.1 p.2 A) B).length = (minusL (below p.1 A) B).length + (minusL (above p.1 A) B).length + 1 := by
      unfold putL minusL
      rw [List.filter_append, List.filter_cons, hn]
      simp
      omega
    have e2 : (minusL A (p :: B)).length = (minusL (below p.1 A) B).length + (minusL (above p.1 A) B).length := by
      rw [← f1, ← f2]
      have hl : look p.1 (p :: B) = some p.2 := by rw [look, same_refl]; rfl
      rcases split3 hA p.1 with ⟨w, _, h2⟩ | ⟨_, h2⟩
      · conv => lhs; rw [h2]
        unfold minusL
        rw [List.filter_append, List.filter_cons, hl]
        simp
      · conv => lhs; rw [h2]
        unfold minusL
        rw [List.filter_append, List.length_append]
    rw [e0, ih, e1, e2]
    simp only [List.length_cons]
    omega

theorem Union_spec {p q : PV} {a b : T} (hp0 : Tr p a) (hq0 : Tr q b) (oa : Ok a) (ob : Ok b) (sa : Sorted a.list) (sb : Sorted b.list) (hn : a.list.length + b.list.length ≤ 400000) :
    ∃ r, Ok r ∧ r.list = unionL a.list b.list ∧ ∀ S, PRet Try.prog 50 [p, q] S (.ip [enc r] 0) := by
  have hp : p.bare = p := by rcases hp0 with ⟨rfl, _⟩ | rfl <;> rfl
  have hq : q.bare = q := by rcases hq0 with ⟨rfl, _⟩ | rfl <;> rfl
  obtain ⟨r, r1, r2, _, r3⟩ := union_spec b a oa ob sa sb hn
  refine ⟨r, r1, r2, fun S K hK => ?_⟩
  refine pcalls_of (C := C) (fun _ => false) (fun _ => false) Try.func50 rfl rfl (by simp [Try.f50]) ?_
  simp -implicitDefEqProofs only [go_sem, ↓reduceIte, Nat.reduceEqDiff, Nat.reduceLT, Nat.reduceLeDiff, Nat.reduceAdd, Nat.reduceMul, Nat.reduceSub, reduceCtorEq, Nat.reduceMod, Nat.reduceBEq, Int.reduceBEq, Int.reduceBNe, Int.reduceToNat, Try.f50, hp, hq]
  refine top_spec hp0 _ _ ?_
  simp -implicitDefEqProofs only [go_sem, ↓reduceIte, Nat.reduceEqDiff, Nat.reduceLT, Nat.reduceLeDiff, Nat.reduceAdd, Nat.reduceMul, Nat.reduceSub, reduceCtorEq, Nat.reduceMod, Nat.reduceBEq, Int.reduceBEq, Int.reduceBNe, Int.reduceToNat, hq]
  refine top_spec hq0 _ _ ?_
  simp -implicitDefEqProofs only [go_sem, ↓reduceIte, Nat.reduceEqDiff, Nat.reduceLT, Nat.reduceLeDiff, Nat.reduceAdd, Nat.reduceMul, Nat.reduceSub, reduceCtorEq, Nat.reduceMod, Nat.reduceBEq, Int.reduceBEq, Int.reduceBNe, Int.reduceToNat]
  refine r3 _ _ ?_
  simp -implicitDefEqProofs only [go_sem, ↓reduceIte, Nat.reduceEqDiff, Nat.reduceLT, Nat.reduceLeDiff, Nat.reduceAdd, Nat.reduceMul, Nat.reduceSub, reduceCtorEq, Nat.reduceMod, Nat.reduceBEq, Int.reduceBEq, Int.reduceBNe, Int.reduceToNat]
  exact ⟨S, fun _ _ h => h, hK⟩
theorem Minus_spec {p q : PV} {a b : T} (hp0 : Tr p a) (hq0 : Tr q b) (oa : Ok a) (ob : Ok b) (sa : Sorted a.list) (sb : Sorted b.list) (hn : a.list.length + b.list.length ≤ 400000) :
    ∃ r, Ok r ∧ r.list = minusL a.list b.list ∧ ∀ S, PRet Try.prog 54 [p, q] S (.ip [enc r] 0) := by
  have hp : p.bare = p := by rcases hp0 with ⟨rfl, _⟩ | rfl <;> rfl
  have hq : q.bare = q := by rcases hq0 with ⟨rfl, _⟩ | rfl <;> rfl
  obtain ⟨r, r1, r2, r3⟩ := minus_spec b a oa ob sa sb hn
  refine ⟨r, r1, r2, fun S K hK => ?_⟩
  refine pcalls_of (C := C) (fun _ => false) (fun _ => false) Try.func54 rfl rfl (by simp [Try.f54]) ?_
  simp -implicitDefEqProofs only [go_sem, ↓reduceIte, Nat.reduceEqDiff, Nat.reduceLT, Nat.reduceLeDiff, Nat.reduceAdd, Nat.reduceMul, Nat.reduceSub, reduceCtorEq, Nat.reduceMod, Nat.reduceBEq, Int.reduceBEq, Int.reduceBNe, Int.reduceToNat, Try.f54, hp, hq]
  refine top_spec hp0 _ _ ?_
  simp -implicitDefEqProofs only [go_sem, ↓reduceIte, Nat.reduceEqDiff, Nat.reduceLT, Nat.reduceLeDiff, Nat.reduceAdd, Nat.reduceMul, Nat.reduceSub, reduceCtorEq, Nat.reduceMod, Nat.reduceBEq, Int.reduceBEq, Int.reduceBNe, Int.reduceToNat, hq]
  refine top_spec hq0 _ _ ?_
  simp -implicitDefEqProofs only [go_sem, ↓reduceIte, Nat.reduceEqDiff, Nat.reduceLT, Nat.reduceLeDiff, Nat.reduceAdd, Nat.reduceMul, Nat.reduceSub, reduceCtorEq, Nat.reduceMod, Nat.reduceBEq, Int.reduceBEq, Int.reduceBNe, Int.reduceToNat]
  refine r3 _ _ ?_
  simp -implicitDefEqProofs only [go_sem, ↓reduceIte, Nat.reduceEqDiff, Nat.reduceLT, Nat.reduceLeDiff, Nat.reduceAdd, Nat.reduceMul, Nat.reduceSub, reduceCtorEq, Nat.reduceMod, Nat.reduceBEq, Int.reduceBEq, Int.reduceBNe, Int.reduceToNat]
  exact ⟨S, fun _ _ h => h, hK⟩
theorem Both_spec {p q : PV} {a b : T} (hp0 : Tr p a) (hq0 : Tr q b) (oa : Ok a) (ob : Ok b) (sa : Sorted a.list) (sb : Sorted b.list) (hn : a.list.length + b.list.length ≤ 400000) :
    ∃ r, Ok r ∧ r.list = bothL a.list b.list ∧ ∀ S, PRet Try.prog 51 [p, q] S (.ip [enc r] 0) := by
  have hp : p.bare = p := by rcases hp0 with ⟨rfl, _⟩ | rfl <;> rfl
  have hq : q.bare = q := by rcases hq0 with ⟨rfl, _⟩ | rfl <;> rfl
  obtain ⟨r, r1, r2, _, r3⟩ := both_spec b a oa ob sa sb hn
  refine ⟨r, r1, r2, fun S K hK => ?_⟩
  refine pcalls_of (C := C) (fun _ => false) (fun _ => false) Try.func51 rfl rfl (by simp [Try.f51]) ?_
  simp -implicitDefEqProofs only [go_sem, ↓reduceIte, Nat.reduceEqDiff, Nat.reduceLT, Nat.reduceLeDiff, Nat.reduceAdd, Nat.reduceMul, Nat.reduceSub, reduceCtorEq, Nat.reduceMod, Nat.reduceBEq, Int.reduceBEq, Int.reduceBNe, Int.reduceToNat, Try.f51, hp, hq]
  refine top_spec hp0 _ _ ?_
  simp -implicitDefEqProofs only [go_sem, ↓reduceIte, Nat.reduceEqDiff, Nat.reduceLT, Nat.reduceLeDiff, Nat.reduceAdd, Nat.reduceMul, Nat.reduceSub, reduceCtorEq, Nat.reduceMod, Nat.reduceBEq, Int.reduceBEq, Int.reduceBNe, Int.reduceToNat, hq]
  refine top_spec hq0 _ _ ?_
  simp -implicitDefEqProofs only [go_sem, ↓reduceIte, Nat.reduceEqDiff, Nat.reduceLT, Nat.reduceLeDiff, Nat.reduceAdd, Nat.reduceMul, Nat.reduceSub, reduceCtorEq, Nat.reduceMod, Nat.reduceBEq, Int.reduceBEq, Int.reduceBNe, Int.reduceToNat]
  refine r3 _ _ ?_
  simp -implicitDefEqProofs only [go_sem, ↓reduceIte, Nat.reduceEqDiff, Nat.reduceLT, Nat.reduceLeDiff, Nat.reduceAdd, Nat.reduceMul, Nat.reduceSub, reduceCtorEq, Nat.reduceMod, Nat.reduceBEq, Int.reduceBEq, Int.reduceBNe, Int.reduceToNat]
  exact ⟨S, fun _ _ h => h, hK⟩

/-! ### the document's -/
def takeL (A B : List Pr) : List Pr := B.foldl (fun acc p => dropL p.1 acc) A
theorem takeL_take {A B : List Pr} {k : Nat} {p : Pr} (h : B[k]? = some p) : takeL A (B.take (k + 1)) = dropL p.1 (takeL A (B.take k)) := by
  rw [List.take_add_one, h]
  simp [takeL]
theorem takeL_len : ∀ (B A : List Pr), (takeL A B).length ≤ A.length
  | [], A => Nat.le_refl _
  | p :: B, A => Nat.le_trans (takeL_len B (dropL p.1 A)) (drop_len A p.1)
theorem takeL_eq : ∀ (B A : List Pr), takeL A B = minusL A B
  | [], A => (minusL_nil A).symm
  | p :: B, A => by
    show takeL (dropL p.1 A) B = _
    rw [takeL_eq B]
    unfold minusL dropL
    rw [List.filter_filter]
    refine filter_congr' fun q _ => ?_
    rw [look]
    cases c : same q.1 p.1
    · have c2 : same p.1 q.1 = false := same_ne fun e => by rw [e, same_refl] at c; cases c
      rw [c2]
      simp
    · have c2 : same p.1 q.1 = true := by rw [same_iff.1 c, same_refl]
      rw [c2]
      simp
theorem RMinus_spec (A B : List Pr) (lA : A.length ≤ 100000) (lB : B.length ≤ 100000) (S : Store) : PRet Try.prog 56 [.sl .no 2 (encPs A), .sl .no 2 (encPs B)] S (.sl .no 2 (encPs (minusL A B))) := by
  intro K hK
  refine pcalls_of (C := C) (fun _ => false) (fun _ => false) Try.func56 rfl rfl (by simp [Try.f56]) ?_
  simp -implicitDefEqProofs only [go_sem, ↓reduceIte, Nat.reduceEqDiff, Nat.reduceLT, Nat.reduceLeDiff, Nat.reduceAdd, Nat.reduceMul, Nat.reduceSub, reduceCtorEq, Nat.reduceMod, Nat.reduceBEq, Int.reduceBEq, Int.reduceBNe, Int.reduceToNat, Try.f56]
  refine vloop (fun e S' => S' = S ∧ ∃ (k : Nat), k ≤ B.length ∧ (e 5).bare = .sl .no 2 (encPs (takeL A (B.take k))) ∧ e 9 = .sl .no 2 (encPs B) ∧ e 10 = .int .i64 B.length ∧ e 11 = .int .i64 k) (fun e _ => B.length - iv (e 11)) ?_ ?_
  · exact ⟨rfl, 0, Nat.zero_le _, rfl, rfl, rfl, rfl⟩
  · rintro J M Q' hJ hM hQ e S' ⟨rfl, k, hk, e5, e9, e10, e11⟩
    by_cases hlt : k < B.length
    · obtain ⟨p, hp⟩ : ∃ p, B[k]? = some p := ⟨_, List.getElem?_eq_getElem hlt⟩
      have hin : (0 : Int) ≤ k ∧ (k : Int) < B.length := by omega
      have hk1 : IntKind.i64.wrap ((k : Int) + 1) = ((k + 1 : Nat) : Int) := wrap64 (by omega) (by omega)
      have s2 := takeL_len (B.take k) A
      simp -implicitDefEqProofs only [go_sem, ↓reduceIte, Nat.reduceEqDiff, Nat.reduceLT, Nat.reduceLeDiff, Nat.reduceAdd, Nat.reduceMul, Nat.reduceSub, reduceCtorEq, Nat.reduceMod, Nat.reduceBEq, Int.reduceBEq, Int.reduceBNe, Int.reduceToNat, hin, hlt, e5, e9, e10, e11, getD_encPs hp]
      refine Without_spec _ p.1 (by omega) _ _ ?_
      simp -implicitDefEqProofs only [go_sem, ↓reduceIte, Nat.reduceEqDiff, Nat.reduceLT, Nat.reduceLeDiff, Nat.reduceAdd, Nat.reduceMul, Nat.reduceSub, reduceCtorEq, Nat.reduceMod, Nat.reduceBEq, Int.reduceBEq, Int.reduceBNe, Int.reduceToNat, e11, hk1]
      refine vnext hJ hM S' (fun _ _ h => h) ⟨rfl, k + 1, hlt, ?_, ?_, ?_, ?_⟩ ?_
      · simp -implicitDefEqProofs only [go_sem, ↓reduceIte, Nat.reduceEqDiff, Nat.reduceLT, Nat.reduceLeDiff, Nat.reduceAdd, Nat.reduceMul, Nat.reduceSub, reduceCtorEq, Nat.reduceMod, Nat.reduceBEq, Int.reduceBEq, Int.reduceBNe, Int.reduceToNat]
        rw [takeL_take hp]
      · simp -implicitDefEqProofs only [go_sem, ↓reduceIte, Nat.reduceEqDiff, Nat.reduceLT, Nat.reduceLeDiff, Nat.reduceAdd, Nat.reduceMul, Nat.reduceSub, reduceCtorEq, Nat.reduceMod, Nat.reduceBEq, Int.reduceBEq, Int.reduceBNe, Int.reduceToNat, e9]
      · simp -implicitDefEqProofs only [go_sem, ↓reduceIte, Nat.reduceEqDiff, Nat.reduceLT, Nat.reduceLeDiff, Nat.reduceAdd, Nat.reduceMul, Nat.reduceSub, reduceCtorEq, Nat.reduceMod, Nat.reduceBEq, Int.reduceBEq, Int.reduceBNe, Int.reduceToNat, e10]
      · simp -implicitDefEqProofs only [go_sem, ↓reduceIte, Nat.reduceEqDiff, Nat.reduceLT, Nat.reduceLeDiff, Nat.reduceAdd, Nat.reduceMul, Nat.reduceSub, reduceCtorEq, Nat.reduceMod, Nat.reduceBEq, Int.reduceBEq, Int.reduceBNe, Int.reduceToNat]
      · simp -implicitDefEqProofs only [go_sem, ↓reduceIte, Nat.reduceEqDiff, Nat.reduceLT, Nat.reduceLeDiff, Nat.reduceAdd, Nat.reduceMul, Nat.reduceSub, reduceCtorEq, Nat.reduceMod, Nat.reduceBEq, Int.reduceBEq, Int.reduceBNe, Int.reduceToNat, e11]
        omega
    · have hcc : ¬ (k : Int) < B.length := by omega
      simp -implicitDefEqProofs only [go_sem, ↓reduceIte, Nat.reduceEqDiff, Nat.reduceLT, Nat.reduceLeDiff, Nat.reduceAdd, Nat.reduceMul, Nat.reduceSub, reduceCtorEq, Nat.reduceMod, Nat.reduceBEq, Int.reduceBEq, Int.reduceBNe, Int.reduceToNat, hcc, e10, e11]
      refine hQ _ _ _ ?_
      simp -implicitDefEqProofs only [go_sem, ↓reduceIte, Nat.reduceEqDiff, Nat.reduceLT, Nat.reduceLeDiff, Nat.reduceAdd, Nat.reduceMul, Nat.reduceSub, reduceCtorEq, Nat.reduceMod, Nat.reduceBEq, Int.reduceBEq, Int.reduceBNe, Int.reduceToNat, e5]
      rw [List.take_of_length_le (by omega), takeL_eq]
      exact ⟨S', fun _ _ h => h, hK⟩
theorem RBoth_spec (A B : List Pr) (sA : Sorted A) (lA : A.length ≤ 100000) (lB : B.length ≤ 100000) (S : Store) : PRet Try.prog 57 [.sl .no 2 (encPs A), .sl .no 2 (encPs B)] S (.sl .no 2 (encPs (bothL A B))) := by
  have he : minusL A (minusL A B) = bothL A B := filter_congr' fun p hp => by
    have hs := minusL_sorted sA B
    cases h : look p.1 B with
    | none =>
      have hm : p ∈ minusL A B := List.mem_filter.2 ⟨hp, by rw [h]; rfl⟩
      rw [look_mem hs hm]
      rfl
    | some w =>
      have : look p.1 (minusL A B) = none := look_none fun a ha => same_ne fun e => by
        have := (List.mem_filter.1 ha).2
        rw [e, h] at this
        cases this
      rw [this]
      rfl
  have hm := minusL_len A B
  intro K hK
  refine pcalls_of (C := C) (fun _ => false) (fun _ => false) Try.func57 rfl rfl (by simp [Try.f57]) ?_
  simp -implicitDefEqProofs only [go_sem, ↓reduceIte, Nat.reduceEqDiff, Nat.reduceLT, Nat.reduceLeDiff, Nat.reduceAdd, Nat.reduceMul, Nat.reduceSub, reduceCtorEq, Nat.reduceMod, Nat.reduceBEq, Int.reduceBEq, Int.reduceBNe, Int.reduceToNat, Try.f57]
  refine RMinus_spec A B lA lB _ _ ?_
  simp -implicitDefEqProofs only [go_sem, ↓reduceIte, Nat.reduceEqDiff, Nat.reduceLT, Nat.reduceLeDiff, Nat.reduceAdd, Nat.reduceMul, Nat.reduceSub, reduceCtorEq, Nat.reduceMod, Nat.reduceBEq, Int.reduceBEq, Int.reduceBNe, Int.reduceToNat]
  refine RMinus_spec A (minusL A B) lA (by omega) _ _ ?_
  rw [he]
  simp -implicitDefEqProofs only [go_sem, ↓reduceIte, Nat.reduceEqDiff, Nat.reduceLT, Nat.reduceLeDiff, Nat.reduceAdd, Nat.reduceMul, Nat.reduceSub, reduceCtorEq, Nat.reduceMod, Nat.reduceBEq, Int.reduceBEq, Int.reduceBNe, Int.reduceToNat]
  exact ⟨S, fun _ _ h => h, hK⟩

set_option maxHeartbeats 2000000 in
theorem sets_law (l m : List Do) (S : Store) : PRet Try.prog 14 [.sl .no 3 (encDos l), .sl .no 3 (encDos m)] S (.bool true) := by
  intro K hK
  refine pcalls_of (C := C) (fun _ => false) (fun _ => false) Try.func14 rfl rfl (by simp [Try.f14]) ?_
  simp -implicitDefEqProofs only [go_sem, ↓reduceIte, Nat.reduceEqDiff, Nat.reduceLT, Nat.reduceLeDiff, Nat.reduceAdd, Nat.reduceMul, Nat.reduceSub, reduceCtorEq, Nat.reduceMod, Nat.reduceBEq, Int.reduceBEq, Int.reduceBNe, Int.reduceToNat, Try.f14]
  refine short_spec [l, m] (by simp) _ _ ?_
  cases h1 : shortF 0 [l, m]
  · simp -implicitDefEqProofs only [go_sem, ↓reduceIte, Nat.reduceEqDiff, Nat.reduceLT, Nat.reduceLeDiff, Nat.reduceAdd, Nat.reduceMul, Nat.reduceSub, reduceCtorEq, Nat.reduceMod, Nat.reduceBEq, Int.reduceBEq, Int.reduceBNe, Int.reduceToNat, h1]
    refine awake_spec _ _ ?_
    simp -implicitDefEqProofs only [go_sem, ↓reduceIte, Nat.reduceEqDiff, Nat.reduceLT, Nat.reduceLeDiff, Nat.reduceAdd, Nat.reduceMul, Nat.reduceSub, reduceCtorEq, Nat.reduceMod, Nat.reduceBEq, Int.reduceBEq, Int.reduceBNe, Int.reduceToNat]
    exact ⟨S, fun _ _ h => h, hK⟩
  · have hl : l.length ≤ 300 := short_len _ _ h1 _ (by simp)
    have hm : m.length ≤ 300 := short_len _ _ h1 _ (by simp)
    simp -implicitDefEqProofs only [go_sem, ↓reduceIte, Nat.reduceEqDiff, Nat.reduceLT, Nat.reduceLeDiff, Nat.reduceAdd, Nat.reduceMul, Nat.reduceSub, reduceCtorEq, Nat.reduceMod, Nat.reduceBEq, Int.reduceBEq, Int.reduceBNe, Int.reduceToNat, h1]
    refine made_calls l (by omega) _ _ fun a oa la => ?_
    simp -implicitDefEqProofs only [go_sem, ↓reduceIte, Nat.reduceEqDiff, Nat.reduceLT, Nat.reduceLeDiff, Nat.reduceAdd, Nat.reduceMul, Nat.reduceSub, reduceCtorEq, Nat.reduceMod, Nat.reduceBEq, Int.reduceBEq, Int.reduceBNe, Int.reduceToNat]
    refine made_calls m (by omega) _ _ fun b ob lb => ?_
    obtain ⟨sa, na⟩ := doneAll_ok l [] List.Pairwise.nil
    obtain ⟨sb, nb⟩ := doneAll_ok m [] List.Pairwise.nil
    simp only [List.length_nil] at na nb
    rw [← la] at sa na ⊢
    rw [← lb] at sb nb ⊢
    obtain ⟨u, u1, u2, u3⟩ := Union_spec (Tr.mk a) (Tr.mk b) oa ob sa sb (by omega)
    obtain ⟨d, d1, d2, d3⟩ := Minus_spec (Tr.mk a) (Tr.mk b) oa ob sa sb (by omega)
    obtain ⟨i, i1, i2, i3⟩ := Both_spec (Tr.mk a) (Tr.mk b) oa ob sa sb (by omega)
    have su : Sorted u.list := by rw [u2]; exact (unionL_ok _ _ sa).1
    have sd : Sorted d.list := by rw [d2]; exact minusL_sorted sa _
    have si : Sorted i.list := by rw [i2]; exact bothL_sorted sa _
    have lu := (unionL_ok b.list a.list sa).2
    rw [← u2] at lu
    have ld := minusL_len a.list b.list
    rw [← d2] at ld
    have li := bothL_len a.list b.list
    rw [← i2] at li
    have hc1 := minus_both_len b.list a.list
    rw [← d2, ← i2] at hc1
    have hc2 := union_len b.list a.list sa sb
    rw [← d2, ← u2] at hc2
    obtain ⟨za, _, _⟩ := ok_size a oa
    obtain ⟨zb, _, _⟩ := ok_size b ob
    obtain ⟨zu, _, _⟩ := ok_size u u1
    obtain ⟨zd, _, _⟩ := ok_size d d1
    obtain ⟨zi, _, _⟩ := ok_size i i1
    have w1 : IntKind.i64.wrap (d.siz + i.siz) = a.siz := by rw [wrap64 (by omega) (by omega)]; omega
    have w2 : IntKind.i64.wrap (d.siz + b.siz) = u.siz := by rw [wrap64 (by omega) (by omega)]; omega
    simp -implicitDefEqProofs only [go_sem, ↓reduceIte, Nat.reduceEqDiff, Nat.reduceLT, Nat.reduceLeDiff, Nat.reduceAdd, Nat.reduceMul, Nat.reduceSub, reduceCtorEq, Nat.reduceMod, Nat.reduceBEq, Int.reduceBEq, Int.reduceBNe, Int.reduceToNat]
    refine u3 _ _ ?_
    simp -implicitDefEqProofs only [go_sem, ↓reduceIte, Nat.reduceEqDiff, Nat.reduceLT, Nat.reduceLeDiff, Nat.reduceAdd, Nat.reduceMul, Nat.reduceSub, reduceCtorEq, Nat.reduceMod, Nat.reduceBEq, Int.reduceBEq, Int.reduceBNe, Int.reduceToNat]
    refine d3 _ _ ?_
    simp -implicitDefEqProofs only [go_sem, ↓reduceIte, Nat.reduceEqDiff, Nat.reduceLT, Nat.reduceLeDiff, Nat.reduceAdd, Nat.reduceMul, Nat.reduceSub, reduceCtorEq, Nat.reduceMod, Nat.reduceBEq, Int.reduceBEq, Int.reduceBNe, Int.reduceToNat]
    refine i3 _ _ ?_
    simp -implicitDefEqProofs only [go_sem, ↓reduceIte, Nat.reduceEqDiff, Nat.reduceLT, Nat.reduceLeDiff, Nat.reduceAdd, Nat.reduceMul, Nat.reduceSub, reduceCtorEq, Nat.reduceMod, Nat.reduceBEq, Int.reduceBEq, Int.reduceBNe, Int.reduceToNat]
    refine All_spec (Tr.mk u) u1 su (by omega) _ _ ?_
    simp -implicitDefEqProofs only [go_sem, ↓reduceIte, Nat.reduceEqDiff, Nat.reduceLT, Nat.reduceLeDiff, Nat.reduceAdd, Nat.reduceMul, Nat.reduceSub, reduceCtorEq, Nat.reduceMod, Nat.reduceBEq, Int.reduceBEq, Int.reduceBNe, Int.reduceToNat]
    refine RUnion_spec a.list b.list sa (by omega) (by omega) _ _ ?_
    rw [← u2]
    simp -implicitDefEqProofs only [go_sem, ↓reduceIte, Nat.reduceEqDiff, Nat.reduceLT, Nat.reduceLeDiff, Nat.reduceAdd, Nat.reduceMul, Nat.reduceSub, reduceCtorEq, Nat.reduceMod, Nat.reduceBEq, Int.reduceBEq, Int.reduceBNe, Int.reduceToNat]
    refine Same_refl _ (by omega) _ _ ?_
    simp -implicitDefEqProofs only [go_sem, ↓reduceIte, Nat.reduceEqDiff, Nat.reduceLT, Nat.reduceLeDiff, Nat.reduceAdd, Nat.reduceMul, Nat.reduceSub, reduceCtorEq, Nat.reduceMod, Nat.reduceBEq, Int.reduceBEq, Int.reduceBNe, Int.reduceToNat]
    refine All_spec (Tr.mk d) d1 sd (by omega) _ _ ?_
    simp -implicitDefEqProofs only [go_sem, ↓reduceIte, Nat.reduceEqDiff, Nat.reduceLT, Nat.reduceLeDiff, Nat.reduceAdd, Nat.reduceMul, Nat.reduceSub, reduceCtorEq, Nat.reduceMod, Nat.reduceBEq, Int.reduceBEq, Int.reduceBNe, Int.reduceToNat]
    refine RMinus_spec a.list b.list (by omega) (by omega) _ _ ?_
    rw [← d2]
    simp -implicitDefEqProofs only [go_sem, ↓reduceIte, Nat.reduceEqDiff, Nat.reduceLT, Nat.reduceLeDiff, Nat.reduceAdd, Nat.reduceMul, Nat.reduceSub, reduceCtorEq, Nat.reduceMod, Nat.reduceBEq, Int.reduceBEq, Int.reduceBNe, Int.reduceToNat]
    refine Same_refl _ (by omega) _ _ ?_
    simp -implicitDefEqProofs only [go_sem, ↓reduceIte, Nat.reduceEqDiff, Nat.reduceLT, Nat.reduceLeDiff, Nat.reduceAdd, Nat.reduceMul, Nat.reduceSub, reduceCtorEq, Nat.reduceMod, Nat.reduceBEq, Int.reduceBEq, Int.reduceBNe, Int.reduceToNat]
    refine All_spec (Tr.mk i) i1 si (by omega) _ _ ?_
    simp -implicitDefEqProofs only [go_sem, ↓reduceIte, Nat.reduceEqDiff, Nat.reduceLT, Nat.reduceLeDiff, Nat.reduceAdd, Nat.reduceMul, Nat.reduceSub, reduceCtorEq, Nat.reduceMod, Nat.reduceBEq, Int.reduceBEq, Int.reduceBNe, Int.reduceToNat]
    refine RBoth_spec a.list b.list sa (by omega) (by omega) _ _ ?_
    rw [← i2]
    simp -implicitDefEqProofs only [go_sem, ↓reduceIte, Nat.reduceEqDiff, Nat.reduceLT, Nat.reduceLeDiff, Nat.reduceAdd, Nat.reduceMul, Nat.reduceSub, reduceCtorEq, Nat.reduceMod, Nat.reduceBEq, Int.reduceBEq, Int.reduceBNe, Int.reduceToNat]
    refine Same_refl _ (by omega) _ _ ?_
    simp -implicitDefEqProofs only [go_sem, ↓reduceIte, Nat.reduceEqDiff, Nat.reduceLT, Nat.reduceLeDiff, Nat.reduceAdd, Nat.reduceMul, Nat.reduceSub, reduceCtorEq, Nat.reduceMod, Nat.reduceBEq, Int.reduceBEq, Int.reduceBNe, Int.reduceToNat]
    refine len_spec (Tr.mk d) _ _ ?_
    simp -implicitDefEqProofs only [go_sem, ↓reduceIte, Nat.reduceEqDiff, Nat.reduceLT, Nat.reduceLeDiff, Nat.reduceAdd, Nat.reduceMul, Nat.reduceSub, reduceCtorEq, Nat.reduceMod, Nat.reduceBEq, Int.reduceBEq, Int.reduceBNe, Int.reduceToNat]
    refine len_spec (Tr.mk i) _ _ ?_
    simp -implicitDefEqProofs only [go_sem, ↓reduceIte, Nat.reduceEqDiff, Nat.reduceLT, Nat.reduceLeDiff, Nat.reduceAdd, Nat.reduceMul, Nat.reduceSub, reduceCtorEq, Nat.reduceMod, Nat.reduceBEq, Int.reduceBEq, Int.reduceBNe, Int.reduceToNat, w1]
    refine len_spec (Tr.mk a) _ _ ?_
    simp -implicitDefEqProofs only [go_sem, ↓reduceIte, Nat.reduceEqDiff, Nat.reduceLT, Nat.reduceLeDiff, Nat.reduceAdd, Nat.reduceMul, Nat.reduceSub, reduceCtorEq, Nat.reduceMod, Nat.reduceBEq, Int.reduceBEq, Int.reduceBNe, Int.reduceToNat, beq_self_eq_true]
    refine len_spec (Tr.mk u) _ _ ?_
    simp -implicitDefEqProofs only [go_sem, ↓reduceIte, Nat.reduceEqDiff, Nat.reduceLT, Nat.reduceLeDiff, Nat.reduceAdd, Nat.reduceMul, Nat.reduceSub, reduceCtorEq, Nat.reduceMod, Nat.reduceBEq, Int.reduceBEq, Int.reduceBNe, Int.reduceToNat]
    refine len_spec (Tr.mk d) _ _ ?_
    simp -implicitDefEqProofs only [go_sem, ↓reduceIte, Nat.reduceEqDiff, Nat.reduceLT, Nat.reduceLeDiff, Nat.reduceAdd, Nat.reduceMul, Nat.reduceSub, reduceCtorEq, Nat.reduceMod, Nat.reduceBEq, Int.reduceBEq, Int.reduceBNe, Int.reduceToNat]
    refine len_spec (Tr.mk b) _ _ ?_
    simp -implicitDefEqProofs only [go_sem, ↓reduceIte, Nat.reduceEqDiff, Nat.reduceLT, Nat.reduceLeDiff, Nat.reduceAdd, Nat.reduceMul, Nat.reduceSub, reduceCtorEq, Nat.reduceMod, Nat.reduceBEq, Int.reduceBEq, Int.reduceBNe, Int.reduceToNat, w2, beq_self_eq_true]
    refine shallow_spec (Tr.mk u) u1 (by omega) _ _ ?_
    simp -implicitDefEqProofs only [go_sem, ↓reduceIte, Nat.reduceEqDiff, Nat.reduceLT, Nat.reduceLeDiff, Nat.reduceAdd, Nat.reduceMul, Nat.reduceSub, reduceCtorEq, Nat.reduceMod, Nat.reduceBEq, Int.reduceBEq, Int.reduceBNe, Int.reduceToNat]
    refine shallow_spec (Tr.mk d) d1 (by omega) _ _ ?_
    simp -implicitDefEqProofs only [go_sem, ↓reduceIte, Nat.reduceEqDiff, Nat.reduceLT, Nat.reduceLeDiff, Nat.reduceAdd, Nat.reduceMul, Nat.reduceSub, reduceCtorEq, Nat.reduceMod, Nat.reduceBEq, Int.reduceBEq, Int.reduceBNe, Int.reduceToNat]
    refine shallow_spec (Tr.mk i) i1 (by omega) _ _ ?_
    simp -implicitDefEqProofs only [go_sem, ↓reduceIte, Nat.reduceEqDiff, Nat.reduceLT, Nat.reduceLeDiff, Nat.reduceAdd, Nat.reduceMul, Nat.reduceSub, reduceCtorEq, Nat.reduceMod, Nat.reduceBEq, Int.reduceBEq, Int.reduceBNe, Int.reduceToNat]
    refine awake_spec _ _ ?_
    simp -implicitDefEqProofs only [go_sem, ↓reduceIte, Nat.reduceEqDiff, Nat.reduceLT, Nat.reduceLeDiff, Nat.reduceAdd, Nat.reduceMul, Nat.reduceSub, reduceCtorEq, Nat.reduceMod, Nat.reduceBEq, Int.reduceBEq, Int.reduceBNe, Int.reduceToNat]
    exact ⟨S, fun _ _ h => h, hK⟩

set_option maxHeartbeats 2000000 in
theorem stays_law (l more : List Do) (S : Store) : PRet Try.prog 12 [.sl .no 3 (encDos l), .sl .no 3 (encDos more)] S (.bool true) := by
  intro K hK
  refine pcalls_of (C := C) (fun _ => false) (fun _ => false) Try.func12 rfl rfl (by simp [Try.f12]) ?_
  simp -implicitDefEqProofs only [go_sem, ↓reduceIte, Nat.reduceEqDiff, Nat.reduceLT, Nat.reduceLeDiff, Nat.reduceAdd, Nat.reduceMul, Nat.reduceSub, reduceCtorEq, Nat.reduceMod, Nat.reduceBEq, Int.reduceBEq, Int.reduceBNe, Int.reduceToNat, Try.f12]
  refine short_spec [l, more] (by simp) _ _ ?_
  cases h1 : shortF 0 [l, more]
  · simp -implicitDefEqProofs only [go_sem, ↓reduceIte, Nat.reduceEqDiff, Nat.reduceLT, Nat.reduceLeDiff, Nat.reduceAdd, Nat.reduceMul, Nat.reduceSub, reduceCtorEq, Nat.reduceMod, Nat.reduceBEq, Int.reduceBEq, Int.reduceBNe, Int.reduceToNat, h1]
    refine awake_spec _ _ ?_
    simp -implicitDefEqProofs only [go_sem, ↓reduceIte, Nat.reduceEqDiff, Nat.reduceLT, Nat.reduceLeDiff, Nat.reduceAdd, Nat.reduceMul, Nat.reduceSub, reduceCtorEq, Nat.reduceMod, Nat.reduceBEq, Int.reduceBEq, Int.reduceBNe, Int.reduceToNat]
    exact ⟨S, fun _ _ h => h, hK⟩
  · have hl : l.length ≤ 300 := short_len _ _ h1 _ (by simp)
    have hmo : more.length ≤ 300 := short_len _ _ h1 _ (by simp)
    simp -implicitDefEqProofs only [go_sem, ↓reduceIte, Nat.reduceEqDiff, Nat.reduceLT, Nat.reduceLeDiff, Nat.reduceAdd, Nat.reduceMul, Nat.reduceSub, reduceCtorEq, Nat.reduceMod, Nat.reduceBEq, Int.reduceBEq, Int.reduceBNe, Int.reduceToNat, h1]
    refine made_calls l (by omega) _ _ fun a oa la => ?_
    obtain ⟨sa, na⟩ := doneAll_ok l [] List.Pairwise.nil
    simp only [List.length_nil] at na
    rw [← la] at sa na ⊢
    simp -implicitDefEqProofs only [go_sem, ↓reduceIte, Nat.reduceEqDiff, Nat.reduceLT, Nat.reduceLeDiff, Nat.reduceAdd, Nat.reduceMul, Nat.reduceSub, reduceCtorEq, Nat.reduceMod, Nat.reduceBEq, Int.reduceBEq, Int.reduceBNe, Int.reduceToNat]
    refine vloop (fun e S' => S' = S ∧ ∃ (k : Nat) (t : T), k ≤ more.length ∧ Ok t ∧ t.list = doneAll (more.take k) a.list ∧ e 5 = .ip [enc a] 0 ∧ e 6 = .sl .no 2 (encPs a.list) ∧ e 7 = .ip [enc t] 0 ∧ e 22 = .sl .no 3 (encDos more) ∧ e 23 = .int .i64 more.length ∧ e 24 = .int .i64 k) (fun e _ => more.length - iv (e 24)) ?_ ?_
    · exact ⟨rfl, 0, a, Nat.zero_le _, oa, rfl, rfl, rfl, rfl, rfl, rfl, rfl⟩
    · rintro J M Q' hJ hM hQ e S' ⟨rfl, k, t, hk, ho, ht, e5, e6, e7, e22, e23, e24⟩
      obtain ⟨s1, s2⟩ := doneAll_ok (more.take k) a.list sa
      simp only [List.length_take] at s2
      by_cases hlt : k < more.length
      · obtain ⟨d, hd⟩ : ∃ d, more[k]? = some d := ⟨_, List.getElem?_eq_getElem hlt⟩
        have hin : (0 : Int) ≤ k ∧ (k : Int) < more.length := by omega
        have hk1 : IntKind.i64.wrap ((k : Int) + 1) = ((k + 1 : Nat) : Int) := wrap64 (by omega) (by omega)
        obtain ⟨q, q1, q2, q3⟩ := does_spec (Tr.mk t) ho (by rw [ht]; exact s1) (by rw [ht]; omega) d
        have hql : q.list = doneAll (more.take (k + 1)) a.list := by rw [q2, ht, doneAll_take hd]
        obtain ⟨z1, z2⟩ := doneAll_ok (more.take (k + 1)) a.list sa
        simp only [List.length_take] at z2
        rw [← hql] at z1 z2
        obtain ⟨x, y, _, _, _, _, x3⟩ := Split_spec (Tr.mk a) oa sa (by omega) d.k
        obtain ⟨u, _, _, u3⟩ := Union_spec (Tr.mk a) (Tr.mk q) oa q1 sa z1 (by omega)
        obtain ⟨i, _, _, i3⟩ := Both_spec (Tr.mk q) (Tr.mk a) q1 oa z1 sa (by omega)
        simp -implicitDefEqProofs only [go_sem, ↓reduceIte, Nat.reduceEqDiff, Nat.reduceLT, Nat.reduceLeDiff, Nat.reduceAdd, Nat.reduceMul, Nat.reduceSub, reduceCtorEq, Nat.reduceMod, Nat.reduceBEq, Int.reduceBEq, Int.reduceBNe, Int.reduceToNat, hin, hlt, e7, e22, e23, e24, getD_encDos hd]
        refine q3 _ _ ?_
        simp -implicitDefEqProofs only [go_sem, ↓reduceIte, Nat.reduceEqDiff, Nat.reduceLT, Nat.reduceLeDiff, Nat.reduceAdd, Nat.reduceMul, Nat.reduceSub, reduceCtorEq, Nat.reduceMod, Nat.reduceBEq, Int.reduceBEq, Int.reduceBNe, Int.reduceToNat, e5]
        refine x3 _ _ ?_
        simp -implicitDefEqProofs only [go_sem, ↓reduceIte, Nat.reduceEqDiff, Nat.reduceLT, Nat.reduceLeDiff, Nat.reduceAdd, Nat.reduceMul, Nat.reduceSub, reduceCtorEq, Nat.reduceMod, Nat.reduceBEq, Int.reduceBEq, Int.reduceBNe, Int.reduceToNat, e5]
        refine u3 _ _ ?_
        simp -implicitDefEqProofs only [go_sem, ↓reduceIte, Nat.reduceEqDiff, Nat.reduceLT, Nat.reduceLeDiff, Nat.reduceAdd, Nat.reduceMul, Nat.reduceSub, reduceCtorEq, Nat.reduceMod, Nat.reduceBEq, Int.reduceBEq, Int.reduceBNe, Int.reduceToNat, e5]
        refine i3 _ _ ?_
        simp -implicitDefEqProofs only [go_sem, ↓reduceIte, Nat.reduceEqDiff, Nat.reduceLT, Nat.reduceLeDiff, Nat.reduceAdd, Nat.reduceMul, Nat.reduceSub, reduceCtorEq, Nat.reduceMod, Nat.reduceBEq, Int.reduceBEq, Int.reduceBNe, Int.reduceToNat, e5]
        refine All_spec (Tr.mk a) oa sa (by omega) _ _ ?_
        simp -implicitDefEqProofs only [go_sem, ↓reduceIte, Nat.reduceEqDiff, Nat.reduceLT, Nat.reduceLeDiff, Nat.reduceAdd, Nat.reduceMul, Nat.reduceSub, reduceCtorEq, Nat.reduceMod, Nat.reduceBEq, Int.reduceBEq, Int.reduceBNe, Int.reduceToNat, e6]
        refine Same_refl _ (by omega) _ _ ?_
        simp -implicitDefEqProofs only [go_sem, ↓reduceIte, Nat.reduceEqDiff, Nat.reduceLT, Nat.reduceLeDiff, Nat.reduceAdd, Nat.reduceMul, Nat.reduceSub, reduceCtorEq, Nat.reduceMod, Nat.reduceBEq, Int.reduceBEq, Int.reduceBNe, Int.reduceToNat, e24, hk1]
        refine vnext hJ hM S' (fun _ _ h => h) ⟨rfl, k + 1, q, hlt, q1, hql, ?_, ?_, ?_, ?_, ?_, ?_⟩ ?_
        · simp -implicitDefEqProofs only [go_sem, ↓reduceIte, Nat.reduceEqDiff, Nat.reduceLT, Nat.reduceLeDiff, Nat.reduceAdd, Nat.reduceMul, Nat.reduceSub, reduceCtorEq, Nat.reduceMod, Nat.reduceBEq, Int.reduceBEq, Int.reduceBNe, Int.reduceToNat, e5]
        · simp -implicitDefEqProofs only [go_sem, ↓reduceIte, Nat.reduceEqDiff, Nat.reduceLT, Nat.reduceLeDiff, Nat.reduceAdd, Nat.reduceMul, Nat.reduceSub, reduceCtorEq, Nat.reduceMod, Nat.reduceBEq, Int.reduceBEq, Int.reduceBNe, Int.reduceToNat, e6]
        · simp -implicitDefEqProofs only [go_sem, ↓reduceIte, Nat.reduceEqDiff, Nat.reduceLT, Nat.reduceLeDiff, Nat.reduceAdd, Nat.reduceMul, Nat.reduceSub, reduceCtorEq, Nat.reduceMod, Nat.reduceBEq, Int.reduceBEq, Int.reduceBNe, Int.reduceToNat]
        · simp -implicitDefEqProofs only [go_sem, ↓reduceIte, Nat.reduceEqDiff, Nat.reduceLT, Nat.reduceLeDiff, Nat.reduceAdd, Nat.reduceMul, Nat.reduceSub, reduceCtorEq, Nat.reduceMod, Nat.reduceBEq, Int.reduceBEq, Int.reduceBNe, Int.reduceToNat, e22]
        · simp -implicitDefEqProofs only [go_sem, ↓reduceIte, Nat.reduceEqDiff, Nat.reduceLT, Nat.reduceLeDiff, Nat.reduceAdd, Nat.reduceMul, Nat.reduceSub, reduceCtorEq, Nat.reduceMod, Nat.reduceBEq, Int.reduceBEq, Int.reduceBNe, Int.reduceToNat, e23]
        · simp -implicitDefEqProofs only [go_sem, ↓reduceIte, Nat.reduceEqDiff, Nat.reduceLT, Nat.reduceLeDiff, Nat.reduceAdd, Nat.reduceMul, Nat.reduceSub, reduceCtorEq, Nat.reduceMod, Nat.reduceBEq, Int.reduceBEq, Int.reduceBNe, Int.reduceToNat]
        · simp -implicitDefEqProofs only [go_sem, ↓reduceIte, Nat.reduceEqDiff, Nat.reduceLT, Nat.reduceLeDiff, Nat.reduceAdd, Nat.reduceMul, Nat.reduceSub, reduceCtorEq, Nat.reduceMod, Nat.reduceBEq, Int.reduceBEq, Int.reduceBNe, Int.reduceToNat, e24]
          omega
      · have hcc : ¬ (k : Int) < more.length := by omega
        simp -implicitDefEqProofs only [go_sem, ↓reduceIte, Nat.reduceEqDiff, Nat.reduceLT, Nat.reduceLeDiff, Nat.reduceAdd, Nat.reduceMul, Nat.reduceSub, reduceCtorEq, Nat.reduceMod, Nat.reduceBEq, Int.reduceBEq, Int.reduceBNe, Int.reduceToNat, hcc, e23, e24]
        refine hQ _ _ _ ?_
        simp -implicitDefEqProofs only [go_sem, ↓reduceIte, Nat.reduceEqDiff, Nat.reduceLT, Nat.reduceLeDiff, Nat.reduceAdd, Nat.reduceMul, Nat.reduceSub, reduceCtorEq, Nat.reduceMod, Nat.reduceBEq, Int.reduceBEq, Int.reduceBNe, Int.reduceToNat, e5]
        refine len_spec (Tr.mk a) _ _ ?_
        rw [(ok_size a oa).1]
        simp -implicitDefEqProofs only [go_sem, ↓reduceIte, Nat.reduceEqDiff, Nat.reduceLT, Nat.reduceLeDiff, Nat.reduceAdd, Nat.reduceMul, Nat.reduceSub, reduceCtorEq, Nat.reduceMod, Nat.reduceBEq, Int.reduceBEq, Int.reduceBNe, Int.reduceToNat, e6, beq_self_eq_true]
        refine awake_spec _ _ ?_
        simp -implicitDefEqProofs only [go_sem, ↓reduceIte, Nat.reduceEqDiff, Nat.reduceLT, Nat.reduceLeDiff, Nat.reduceAdd, Nat.reduceMul, Nat.reduceSub, reduceCtorEq, Nat.reduceMod, Nat.reduceBEq, Int.reduceBEq, Int.reduceBNe, Int.reduceToNat]
        exact ⟨S', fun _ _ h => h, hK⟩
end Go.Proofs.Ytmedhhjbknnfkaa.V
