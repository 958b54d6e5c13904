/- Trees: how shallow they are; split and joined by the tree's own calls. -/
import Derived.Test.YtmedhhjbknnfkaaTZ
set_option linter.unusedVariables false
set_option linter.unusedSimpArgs false
namespace Go.Proofs.Ytmedhhjbknnfkaa.V
open Go Go.VL

def fS : Nat → Nat
  | 0 => 0
  | 1 => 1
  | n + 2 => fS n + fS (n + 1) + 1
theorem fS_mono : ∀ n : Nat, fS n ≤ fS (n + 1)
  | 0 => by decide
  | 1 => by decide
  | n + 2 => by
    have h1 := fS_mono n
    have h2 : fS (n + 1) ≤ fS (n + 2) := fS_mono (n + 1)
    show fS n + fS (n + 1) + 1 ≤ fS (n + 1) + fS (n + 2) + 1
    omega
theorem fS_le : ∀ {m n : Nat}, m ≤ n → fS m ≤ fS n := by
  intro m n h
  induction h with
  | refl => exact Nat.le_refl _
  | step _ ih => exact Nat.le_trans ih (fS_mono _)
theorem fS_30 : fS 30 = 2178308 := by decide +kernel
theorem fS_31 : fS 31 = 3524577 := by decide +kernel
theorem fS_size : ∀ t : T, Ok t → fS t.dep.toNat ≤ t.list.length
  | .nil, _ => Nat.zero_le _
  | .node k v l r d s, h => by
    obtain ⟨h1, h2, h3, h4, h5, h6⟩ := h
    have i1 := fS_size l h1
    have i2 := fS_size r h2
    obtain ⟨_, z1, _⟩ := ok_size l h1
    obtain ⟨_, z2, _⟩ := ok_size r h2
    simp only [T.list, List.length_append, List.length_cons]
    rw [dep_node]
    rcases Int.lt_or_le l.dep r.dep with hc | hc
    · have e1 : d.toNat = l.dep.toNat + 2 := by omega
      have e2 : r.dep.toNat = l.dep.toNat + 1 := by omega
      rw [e1]
      rw [e2] at i2
      show fS l.dep.toNat + fS (l.dep.toNat + 1) + 1 ≤ _
      omega
    · rcases Int.lt_or_le r.dep l.dep with hc2 | hc2
      · have e1 : d.toNat = r.dep.toNat + 2 := by omega
        have e2 : l.dep.toNat = r.dep.toNat + 1 := by omega
        rw [e1]
        rw [e2] at i1
        show fS r.dep.toNat + fS (r.dep.toNat + 1) + 1 ≤ _
        omega
      · have e0 : r.dep = l.dep := by omega
        have e1 : d.toNat = l.dep.toNat + 1 := by omega
        rw [e0] at i2
        rw [e1]
        cases hd : l.dep.toNat with
        | zero => show 1 ≤ _; omega
        | succ n =>
          rw [hd] at i1 i2
          have := fS_mono n
          show fS n + fS (n + 1) + 1 ≤ _
          omega
theorem dep_30 {t : T} (h : Ok t) (hn : t.list.length ≤ 1000000) : t.dep < 30 := by
  rcases Int.lt_or_le t.dep 30 with h1 | h1
  · exact h1
  · have h2 := fS_size t h
    have h3 : fS 30 ≤ fS t.dep.toNat := fS_le (by omega)
    rw [fS_30] at h3
    omega

set_option maxHeartbeats 1000000 in
theorem shallow_spec {p : PV} {t : T} (h : Tr p t) (ho : Ok t) (hn : t.list.length ≤ 1000000) (S : Store) : PRet Try.prog 45 [p] S (.bool true) := by
  intro K hK
  refine pcalls_of (C := C) (fun _ => false) (fun _ => false) Try.func45 rfl rfl (by simp [Try.f45]) ?_
  have hp : p.bare = p := by rcases h with ⟨rfl, rfl⟩ | rfl <;> rfl
  obtain ⟨z1, z2, z3⟩ := ok_size t ho
  have h30 := dep_30 ho hn
  have hfs := fS_size t ho
  simp -implicitDefEqProofs only [go_sem, ↓reduceIte, Nat.reduceEqDiff, Nat.reduceLT, Nat.reduceLeDiff, Nat.reduceAdd, Nat.reduceMul, Nat.reduceSub, reduceCtorEq, Nat.reduceMod, Nat.reduceBEq, Int.reduceBEq, Int.reduceBNe, Int.reduceToNat, Try.f45, hp]
  refine Depth_spec h _ _ ?_
  by_cases c1 : t.dep = 0
  · have hz : t = .nil := by
      cases t with
      | nil => rfl
      | node k v l r d s =>
        obtain ⟨h1, h2, h3, _⟩ := ho
        obtain ⟨_, y1, _⟩ := ok_size l h1
        rw [dep_node] at c1
        omega
    subst hz
    have d1 : (T.nil.dep == 0) = true := rfl
    simp -implicitDefEqProofs only [go_sem, ↓reduceIte, Nat.reduceEqDiff, Nat.reduceLT, Nat.reduceLeDiff, Nat.reduceAdd, Nat.reduceMul, Nat.reduceSub, reduceCtorEq, Nat.reduceMod, Nat.reduceBEq, Int.reduceBEq, Int.reduceBNe, Int.reduceToNat, d1, hp]
    refine len_spec h _ _ ?_
    have d2 : (T.nil.siz == 0) = true := rfl
    simp -implicitDefEqProofs only [go_sem, ↓reduceIte, Nat.reduceEqDiff, Nat.reduceLT, Nat.reduceLeDiff, Nat.reduceAdd, Nat.reduceMul, Nat.reduceSub, reduceCtorEq, Nat.reduceMod, Nat.reduceBEq, Int.reduceBEq, Int.reduceBNe, Int.reduceToNat, d2]
    exact ⟨S, fun _ _ h => h, hK⟩
  · have d1 : (t.dep == 0) = false := by simp [c1]
    have d2 : ¬ (60 : Int) < t.dep := by omega
    simp -implicitDefEqProofs only [go_sem, ↓reduceIte, Nat.reduceEqDiff, Nat.reduceLT, Nat.reduceLeDiff, Nat.reduceAdd, Nat.reduceMul, Nat.reduceSub, reduceCtorEq, Nat.reduceMod, Nat.reduceBEq, Int.reduceBEq, Int.reduceBNe, Int.reduceToNat, d1, hp]
    refine Depth_spec h _ _ ?_
    simp -implicitDefEqProofs only [go_sem, ↓reduceIte, Nat.reduceEqDiff, Nat.reduceLT, Nat.reduceLeDiff, Nat.reduceAdd, Nat.reduceMul, Nat.reduceSub, reduceCtorEq, Nat.reduceMod, Nat.reduceBEq, Int.reduceBEq, Int.reduceBNe, Int.reduceToNat, d2, hp]
    refine Depth_spec h _ _ ?_
    have hw : IntKind.i64.wrap (t.dep - 1) = t.dep - 1 := wrap64 (by omega) (by omega)
    simp -implicitDefEqProofs only [go_sem, ↓reduceIte, Nat.reduceEqDiff, Nat.reduceLT, Nat.reduceLeDiff, Nat.reduceAdd, Nat.reduceMul, Nat.reduceSub, reduceCtorEq, Nat.reduceMod, Nat.reduceBEq, Int.reduceBEq, Int.reduceBNe, Int.reduceToNat, hw]
    refine vloop (fun e S' => S' = S ∧ ∃ (k : Nat), (k : Int) ≤ t.dep - 1 ∧ e 0 = p ∧ e 3 = .int .i64 (fS (k + 1) : Nat) ∧ e 4 = .int .i64 (fS (k + 2) : Nat) ∧ e 18 = .int .i64 (t.dep - 1) ∧ e 19 = .int .i64 k) (fun e _ => 100 - iv (e 19)) ?_ ?_
    · exact ⟨rfl, 0, by omega, rfl, rfl, rfl, rfl, rfl⟩
    · rintro J M Q' hJ hM hQ e S' ⟨rfl, k, hk, e0, e3, e4, e18, e19⟩
      by_cases hlt : (k : Int) < t.dep - 1
      · have hk1 : IntKind.i64.wrap ((k : Int) + 1) = ((k + 1 : Nat) : Int) := wrap64 (by omega) (by omega)
        have b1 : fS (k + 1) ≤ 2178308 := by rw [← fS_30]; exact fS_le (by omega)
        have b2 : fS (k + 2) ≤ 3524577 := by rw [← fS_31]; exact fS_le (by omega)
        have w1 : IntKind.i64.wrap ((fS (k + 1) : Nat) + (fS (k + 2) : Nat) : Int) = ((fS (k + 1) + fS (k + 2) : Nat) : Int) := by rw [wrap64 (by omega) (by omega)]; omega
        have w2 : IntKind.i64.wrap (((fS (k + 1) + fS (k + 2) : Nat) : Int) + 1) = ((fS (k + 1 + 2) : Nat) : Int) := by
          rw [wrap64 (by omega) (by omega)]
          rfl
        simp -implicitDefEqProofs only [go_sem, ↓reduceIte, Nat.reduceEqDiff, Nat.reduceLT, Nat.reduceLeDiff, Nat.reduceAdd, Nat.reduceMul, Nat.reduceSub, reduceCtorEq, Nat.reduceMod, Nat.reduceBEq, Int.reduceBEq, Int.reduceBNe, Int.reduceToNat, hlt, e3, e4, e18, e19, w1, w2, hk1]
        refine vnext hJ hM S' (fun _ _ h => h) ⟨rfl, k + 1, by omega, ?_, ?_, ?_, ?_, ?_⟩ ?_
        · simp -implicitDefEqProofs only [go_sem, ↓reduceIte, Nat.reduceEqDiff, Nat.reduceLT, Nat.reduceLeDiff, Nat.reduceAdd, Nat.reduceMul, Nat.reduceSub, reduceCtorEq, Nat.reduceMod, Nat.reduceBEq, Int.reduceBEq, Int.reduceBNe, Int.reduceToNat, e0]
        · simp -implicitDefEqProofs only [go_sem, ↓reduceIte, Nat.reduceEqDiff, Nat.reduceLT, Nat.reduceLeDiff, Nat.reduceAdd, Nat.reduceMul, Nat.reduceSub, reduceCtorEq, Nat.reduceMod, Nat.reduceBEq, Int.reduceBEq, Int.reduceBNe, Int.reduceToNat]
        · simp -implicitDefEqProofs only [go_sem, ↓reduceIte, Nat.reduceEqDiff, Nat.reduceLT, Nat.reduceLeDiff, Nat.reduceAdd, Nat.reduceMul, Nat.reduceSub, reduceCtorEq, Nat.reduceMod, Nat.reduceBEq, Int.reduceBEq, Int.reduceBNe, Int.reduceToNat]
        · simp -implicitDefEqProofs only [go_sem, ↓reduceIte, Nat.reduceEqDiff, Nat.reduceLT, Nat.reduceLeDiff, Nat.reduceAdd, Nat.reduceMul, Nat.reduceSub, reduceCtorEq, Nat.reduceMod, Nat.reduceBEq, Int.reduceBEq, Int.reduceBNe, Int.reduceToNat, e18]
        · simp -implicitDefEqProofs only [go_sem, ↓reduceIte, Nat.reduceEqDiff, Nat.reduceLT, Nat.reduceLeDiff, Nat.reduceAdd, Nat.reduceMul, Nat.reduceSub, reduceCtorEq, Nat.reduceMod, Nat.reduceBEq, Int.reduceBEq, Int.reduceBNe, Int.reduceToNat]
        · simp -implicitDefEqProofs only [go_sem, ↓reduceIte, Nat.reduceEqDiff, Nat.reduceLT, Nat.reduceLeDiff, Nat.reduceAdd, Nat.reduceMul, Nat.reduceSub, reduceCtorEq, Nat.reduceMod, Nat.reduceBEq, Int.reduceBEq, Int.reduceBNe, Int.reduceToNat, e19]
          omega
      · simp -implicitDefEqProofs only [go_sem, ↓reduceIte, Nat.reduceEqDiff, Nat.reduceLT, Nat.reduceLeDiff, Nat.reduceAdd, Nat.reduceMul, Nat.reduceSub, reduceCtorEq, Nat.reduceMod, Nat.reduceBEq, Int.reduceBEq, Int.reduceBNe, Int.reduceToNat, hlt, e18, e19]
        refine hQ _ _ _ ?_
        simp -implicitDefEqProofs only [go_sem, ↓reduceIte, Nat.reduceEqDiff, Nat.reduceLT, Nat.reduceLeDiff, Nat.reduceAdd, Nat.reduceMul, Nat.reduceSub, reduceCtorEq, Nat.reduceMod, Nat.reduceBEq, Int.reduceBEq, Int.reduceBNe, Int.reduceToNat, e0, hp]
        refine len_spec h _ _ ?_
        have hd : t.dep.toNat = k + 1 := by omega
        rw [hd] at hfs
        have hle : ((fS (k + 1) : Nat) : Int) ≤ t.siz := by omega
        simp -implicitDefEqProofs only [go_sem, ↓reduceIte, Nat.reduceEqDiff, Nat.reduceLT, Nat.reduceLeDiff, Nat.reduceAdd, Nat.reduceMul, Nat.reduceSub, reduceCtorEq, Nat.reduceMod, Nat.reduceBEq, Int.reduceBEq, Int.reduceBNe, Int.reduceToNat, e3, hle]
        exact ⟨S', fun _ _ h => h, hK⟩

theorem Split_spec {p : PV} {t : T} (h : Tr p t) (ho : Ok t) (hs : Sorted t.list) (hn : t.list.length ≤ 1000000) (key : ByteArray) :
    ∃ a b, Ok a ∧ Ok b ∧ a.list = below key t.list ∧ b.list = above key t.list ∧ ∀ S, PRet Try.prog 46 [p, .str key] S (.tup [.ip [enc a] 0, .ip [enc b] 0, .str ((look key t.list).getD ⟨#[]⟩), .bool (look key t.list).isSome]) := by
  have hp : p.bare = p := by rcases h with ⟨rfl, rfl⟩ | rfl <;> rfl
  obtain ⟨a, b, c, h1, h2, h3, h4, h5, _, h7⟩ := split_spec key t ho hs hn
  refine ⟨a, b, h1, h2, h3, h4, fun S K hK => ?_⟩
  refine pcalls_of (C := C) (fun _ => false) (fun _ => false) Try.func46 rfl rfl (by simp [Try.f46]) ?_
  unfold At at h5
  simp -implicitDefEqProofs only [go_sem, ↓reduceIte, Nat.reduceEqDiff, Nat.reduceLT, Nat.reduceLeDiff, Nat.reduceAdd, Nat.reduceMul, Nat.reduceSub, reduceCtorEq, Nat.reduceMod, Nat.reduceBEq, Int.reduceBEq, Int.reduceBNe, Int.reduceToNat, Try.f46, hp]
  refine top_spec h _ _ ?_
  simp -implicitDefEqProofs only [go_sem, ↓reduceIte, Nat.reduceEqDiff, Nat.reduceLT, Nat.reduceLeDiff, Nat.reduceAdd, Nat.reduceMul, Nat.reduceSub, reduceCtorEq, Nat.reduceMod, Nat.reduceBEq, Int.reduceBEq, Int.reduceBNe, Int.reduceToNat]
  refine h7 _ _ ?_
  cases hl : look key t.list with
  | none =>
    rw [hl] at h5 hK
    subst h5
    simp -implicitDefEqProofs only [go_sem, ↓reduceIte, Nat.reduceEqDiff, Nat.reduceLT, Nat.reduceLeDiff, Nat.reduceAdd, Nat.reduceMul, Nat.reduceSub, reduceCtorEq, Nat.reduceMod, Nat.reduceBEq, Int.reduceBEq, Int.reduceBNe, Int.reduceToNat, enc_nil]
    exact ⟨S, fun _ _ h => h, hK⟩
  | some v =>
    rw [hl] at h5 hK
    obtain ⟨l, r, d, s, rfl⟩ := h5
    simp -implicitDefEqProofs only [go_sem, ↓reduceIte, Nat.reduceEqDiff, Nat.reduceLT, Nat.reduceLeDiff, Nat.reduceAdd, Nat.reduceMul, Nat.reduceSub, reduceCtorEq, Nat.reduceMod, Nat.reduceBEq, Int.reduceBEq, Int.reduceBNe, Int.reduceToNat, enc_node]
    exact ⟨S, fun _ _ h => h, hK⟩

theorem shallow_law (l : List Do) (S : Store) : PRet Try.prog 9 [.sl .no 3 (encDos l)] S (.bool true) := by
  intro K hK
  refine pcalls_of (C := C) (fun _ => false) (fun _ => false) Try.func9 rfl rfl (by simp [Try.f9]) ?_
  simp -implicitDefEqProofs only [go_sem, ↓reduceIte, Nat.reduceEqDiff, Nat.reduceLT, Nat.reduceLeDiff, Nat.reduceAdd, Nat.reduceMul, Nat.reduceSub, reduceCtorEq, Nat.reduceMod, Nat.reduceBEq, Int.reduceBEq, Int.reduceBNe, Int.reduceToNat, Try.f9]
  refine short_spec [l] (by simp) _ _ ?_
  cases h1 : shortF 0 [l]
  · simp -implicitDefEqProofs only [go_sem, ↓reduceIte, Nat.reduceEqDiff, Nat.reduceLT, Nat.reduceLeDiff, Nat.reduceAdd, Nat.reduceMul, Nat.reduceSub, reduceCtorEq, Nat.reduceMod, Nat.reduceBEq, Int.reduceBEq, Int.reduceBNe, Int.reduceToNat, h1]
    refine awake_spec _ _ ?_
    simp -implicitDefEqProofs only [go_sem, ↓reduceIte, Nat.reduceEqDiff, Nat.reduceLT, Nat.reduceLeDiff, Nat.reduceAdd, Nat.reduceMul, Nat.reduceSub, reduceCtorEq, Nat.reduceMod, Nat.reduceBEq, Int.reduceBEq, Int.reduceBNe, Int.reduceToNat]
    exact ⟨S, fun _ _ h => h, hK⟩
  · have hl : l.length ≤ 300 := short_len _ _ h1 _ (by simp)
    simp -implicitDefEqProofs only [go_sem, ↓reduceIte, Nat.reduceEqDiff, Nat.reduceLT, Nat.reduceLeDiff, Nat.reduceAdd, Nat.reduceMul, Nat.reduceSub, reduceCtorEq, Nat.reduceMod, Nat.reduceBEq, Int.reduceBEq, Int.reduceBNe, Int.reduceToNat, h1]
    refine New_spec _ _ ?_
    simp -implicitDefEqProofs only [go_sem, ↓reduceIte, Nat.reduceEqDiff, Nat.reduceLT, Nat.reduceLeDiff, Nat.reduceAdd, Nat.reduceMul, Nat.reduceSub, reduceCtorEq, Nat.reduceMod, Nat.reduceBEq, Int.reduceBEq, Int.reduceBNe, Int.reduceToNat]
    refine vloop (fun e S' => S' = S ∧ ∃ (k : Nat) (t : T), k ≤ l.length ∧ Ok t ∧ t.list = doneAll (l.take k) [] ∧ e 3 = .ip [enc t] 0 ∧ e 16 = .sl .no 3 (encDos l) ∧ e 17 = .int .i64 l.length ∧ e 18 = .int .i64 k) (fun e _ => l.length - iv (e 18)) ?_ ?_
    · exact ⟨rfl, 0, .nil, Nat.zero_le _, trivial, rfl, rfl, rfl, rfl, rfl⟩
    · rintro J M Q' hJ hM hQ e S' ⟨rfl, k, t, hk, ho, ht, e3, e16, e17, e18⟩
      obtain ⟨s1, s2⟩ := doneAll_ok (l.take k) [] List.Pairwise.nil
      simp only [List.length_nil, List.length_take] at s2
      by_cases hlt : k < l.length
      · obtain ⟨d, hd⟩ : ∃ d, l[k]? = some d := ⟨_, List.getElem?_eq_getElem hlt⟩
        have hin : (0 : Int) ≤ k ∧ (k : Int) < l.length := by omega
        have hk1 : IntKind.i64.wrap ((k : Int) + 1) = ((k + 1 : Nat) : Int) := wrap64 (by omega) (by omega)
        obtain ⟨q, q1, q2, q3⟩ := does_spec (Tr.mk t) ho (by rw [ht]; exact s1) (by rw [ht]; omega) d
        obtain ⟨z1, z2⟩ := doneAll_ok (l.take (k + 1)) [] List.Pairwise.nil
        simp only [List.length_nil, List.length_take] at z2
        have hql : q.list = doneAll (l.take (k + 1)) [] := by rw [q2, ht, doneAll_take hd]
        simp -implicitDefEqProofs only [go_sem, ↓reduceIte, Nat.reduceEqDiff, Nat.reduceLT, Nat.reduceLeDiff, Nat.reduceAdd, Nat.reduceMul, Nat.reduceSub, reduceCtorEq, Nat.reduceMod, Nat.reduceBEq, Int.reduceBEq, Int.reduceBNe, Int.reduceToNat, hin, hlt, e3, e16, e17, e18, getD_encDos hd]
        refine q3 _ _ ?_
        simp -implicitDefEqProofs only [go_sem, ↓reduceIte, Nat.reduceEqDiff, Nat.reduceLT, Nat.reduceLeDiff, Nat.reduceAdd, Nat.reduceMul, Nat.reduceSub, reduceCtorEq, Nat.reduceMod, Nat.reduceBEq, Int.reduceBEq, Int.reduceBNe, Int.reduceToNat]
        refine shallow_spec (Tr.mk q) q1 (by rw [hql]; omega) _ _ ?_
        simp -implicitDefEqProofs only [go_sem, ↓reduceIte, Nat.reduceEqDiff, Nat.reduceLT, Nat.reduceLeDiff, Nat.reduceAdd, Nat.reduceMul, Nat.reduceSub, reduceCtorEq, Nat.reduceMod, Nat.reduceBEq, Int.reduceBEq, Int.reduceBNe, Int.reduceToNat, e18, hk1]
        refine vnext hJ hM S' (fun _ _ h => h) ⟨rfl, k + 1, q, hlt, q1, hql, ?_, ?_, ?_, ?_⟩ ?_
        · simp -implicitDefEqProofs only [go_sem, ↓reduceIte, Nat.reduceEqDiff, Nat.reduceLT, Nat.reduceLeDiff, Nat.reduceAdd, Nat.reduceMul, Nat.reduceSub, reduceCtorEq, Nat.reduceMod, Nat.reduceBEq, Int.reduceBEq, Int.reduceBNe, Int.reduceToNat]
        · simp -implicitDefEqProofs only [go_sem, ↓reduceIte, Nat.reduceEqDiff, Nat.reduceLT, Nat.reduceLeDiff, Nat.reduceAdd, Nat.reduceMul, Nat.reduceSub, reduceCtorEq, Nat.reduceMod, Nat.reduceBEq, Int.reduceBEq, Int.reduceBNe, Int.reduceToNat, e16]
        · simp -implicitDefEqProofs only [go_sem, ↓reduceIte, Nat.reduceEqDiff, Nat.reduceLT, Nat.reduceLeDiff, Nat.reduceAdd, Nat.reduceMul, Nat.reduceSub, reduceCtorEq, Nat.reduceMod, Nat.reduceBEq, Int.reduceBEq, Int.reduceBNe, Int.reduceToNat, e17]
        · simp -implicitDefEqProofs only [go_sem, ↓reduceIte, Nat.reduceEqDiff, Nat.reduceLT, Nat.reduceLeDiff, Nat.reduceAdd, Nat.reduceMul, Nat.reduceSub, reduceCtorEq, Nat.reduceMod, Nat.reduceBEq, Int.reduceBEq, Int.reduceBNe, Int.reduceToNat]
        · simp -implicitDefEqProofs only [go_sem, ↓reduceIte, Nat.reduceEqDiff, Nat.reduceLT, Nat.reduceLeDiff, Nat.reduceAdd, Nat.reduceMul, Nat.reduceSub, reduceCtorEq, Nat.reduceMod, Nat.reduceBEq, Int.reduceBEq, Int.reduceBNe, Int.reduceToNat, e18]
          omega
      · have hcc : ¬ (k : Int) < l.length := by omega
        simp -implicitDefEqProofs only [go_sem, ↓reduceIte, Nat.reduceEqDiff, Nat.reduceLT, Nat.reduceLeDiff, Nat.reduceAdd, Nat.reduceMul, Nat.reduceSub, reduceCtorEq, Nat.reduceMod, Nat.reduceBEq, Int.reduceBEq, Int.reduceBNe, Int.reduceToNat, hcc, e17, e18]
        refine hQ _ _ _ ?_
        obtain ⟨a, b, a1, b1, a2, b2, h3⟩ := Split_spec (Tr.mk t) ho (by rw [ht]; exact s1) (by rw [ht]; omega) ⟨#[109]⟩
        have la := below_len ⟨#[109]⟩ t.list
        have lb := above_len ⟨#[109]⟩ t.list
        rw [← a2, ht] at la
        rw [← b2, ht] at lb
        simp -implicitDefEqProofs only [go_sem, ↓reduceIte, Nat.reduceEqDiff, Nat.reduceLT, Nat.reduceLeDiff, Nat.reduceAdd, Nat.reduceMul, Nat.reduceSub, reduceCtorEq, Nat.reduceMod, Nat.reduceBEq, Int.reduceBEq, Int.reduceBNe, Int.reduceToNat, e3]
        refine h3 _ _ ?_
        simp -implicitDefEqProofs only [go_sem, ↓reduceIte, Nat.reduceEqDiff, Nat.reduceLT, Nat.reduceLeDiff, Nat.reduceAdd, Nat.reduceMul, Nat.reduceSub, reduceCtorEq, Nat.reduceMod, Nat.reduceBEq, Int.reduceBEq, Int.reduceBNe, Int.reduceToNat]
        refine shallow_spec (Tr.mk a) a1 (by omega) _ _ ?_
        simp -implicitDefEqProofs only [go_sem, ↓reduceIte, Nat.reduceEqDiff, Nat.reduceLT, Nat.reduceLeDiff, Nat.reduceAdd, Nat.reduceMul, Nat.reduceSub, reduceCtorEq, Nat.reduceMod, Nat.reduceBEq, Int.reduceBEq, Int.reduceBNe, Int.reduceToNat]
        refine shallow_spec (Tr.mk b) b1 (by omega) _ _ ?_
        simp -implicitDefEqProofs only [go_sem, ↓reduceIte, Nat.reduceEqDiff, Nat.reduceLT, Nat.reduceLeDiff, Nat.reduceAdd, Nat.reduceMul, Nat.reduceSub, reduceCtorEq, Nat.reduceMod, Nat.reduceBEq, Int.reduceBEq, Int.reduceBNe, Int.reduceToNat]
        refine awake_spec _ _ ?_
        simp -implicitDefEqProofs only [go_sem, ↓reduceIte, Nat.reduceEqDiff, Nat.reduceLT, Nat.reduceLeDiff, Nat.reduceAdd, Nat.reduceMul, Nat.reduceSub, reduceCtorEq, Nat.reduceMod, Nat.reduceBEq, Int.reduceBEq, Int.reduceBNe, Int.reduceToNat]
        exact ⟨S', fun _ _ h => h, hK⟩
end Go.Proofs.Ytmedhhjbknnfkaa.V
