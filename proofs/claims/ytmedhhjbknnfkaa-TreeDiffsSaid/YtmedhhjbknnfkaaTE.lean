/- Trees: joined, without the last, glued. -/
import Derived.Test.YtmedhhjbknnfkaaTD
set_option linter.unusedVariables false
set_option linter.unusedSimpArgs false
namespace Go.Proofs.Ytmedhhjbknnfkaa.V
open Go Go.VL

theorem list_nil {t : T} (h : t.list = []) : t = .nil := by
  cases t with
  | nil => rfl
  | node k v l r d s => simp [T.list] at h

theorem join_spec {l m : T} (hl : Ok l) (hm : Ok m) (k v : ByteArray) (hn : l.list.length + m.list.length + 1 ≤ 1000000) :
    ∃ r, Ok r ∧ r.list = l.list ++ (k, v) :: m.list ∧ (l.dep ≤ m.dep + 1 → m.dep ≤ l.dep + 1 → r = over l k v m) ∧ ∀ S, PRet Try.prog 72 [enc l, .agg [.str k, .str v], enc m] S (enc r) := by
  obtain ⟨l1, l2, l3⟩ := ok_size l hl
  obtain ⟨m1, m2, m3⟩ := ok_size m hm
  have fl := (ok_n hl).few (by omega)
  have fm := (ok_n hm).few (by omega)
  have hw1 : IntKind.i64.wrap (m.dep + 1) = m.dep + 1 := wrap64 (by omega) (by omega)
  have hw2 : IntKind.i64.wrap (l.dep + 1) = l.dep + 1 := wrap64 (by omega) (by omega)
  by_cases c1 : m.dep + 1 < l.dep
  · obtain ⟨r, h1, h2, _, h4⟩ := downLess_spec hm k v l hl c1 hn
    refine ⟨r, h1, h2, fun h => by omega, fun S K hK => ?_⟩
    refine pcalls_of (C := C) (fun _ => false) (fun _ => false) Try.func72 rfl rfl (by simp [Try.f72]) ?_
    simp -implicitDefEqProofs only [go_sem, ↓reduceIte, Nat.reduceEqDiff, Nat.reduceLT, Nat.reduceLeDiff, Nat.reduceAdd, Nat.reduceMul, Nat.reduceSub, reduceCtorEq, Nat.reduceMod, Nat.reduceBEq, Int.reduceBEq, Int.reduceBNe, Int.reduceToNat, Try.f72]
    refine depth_spec l _ _ ?_
    simp -implicitDefEqProofs only [go_sem, ↓reduceIte, Nat.reduceEqDiff, Nat.reduceLT, Nat.reduceLeDiff, Nat.reduceAdd, Nat.reduceMul, Nat.reduceSub, reduceCtorEq, Nat.reduceMod, Nat.reduceBEq, Int.reduceBEq, Int.reduceBNe, Int.reduceToNat]
    refine depth_spec m _ _ ?_
    simp -implicitDefEqProofs only [go_sem, ↓reduceIte, Nat.reduceEqDiff, Nat.reduceLT, Nat.reduceLeDiff, Nat.reduceAdd, Nat.reduceMul, Nat.reduceSub, reduceCtorEq, Nat.reduceMod, Nat.reduceBEq, Int.reduceBEq, Int.reduceBNe, Int.reduceToNat, hw1, c1]
    refine h4 _ _ ?_
    simp -implicitDefEqProofs only [go_sem, ↓reduceIte, Nat.reduceEqDiff, Nat.reduceLT, Nat.reduceLeDiff, Nat.reduceAdd, Nat.reduceMul, Nat.reduceSub, reduceCtorEq, Nat.reduceMod, Nat.reduceBEq, Int.reduceBEq, Int.reduceBNe, Int.reduceToNat]
    exact ⟨S, fun _ _ h => h, hK⟩
  · by_cases c2 : l.dep + 1 < m.dep
    · obtain ⟨r, h1, h2, _, h4⟩ := downMore_spec hl k v m hm c2 hn
      refine ⟨r, h1, h2, fun _ h => by omega, fun S K hK => ?_⟩
      refine pcalls_of (C := C) (fun _ => false) (fun _ => false) Try.func72 rfl rfl (by simp [Try.f72]) ?_
      simp -implicitDefEqProofs only [go_sem, ↓reduceIte, Nat.reduceEqDiff, Nat.reduceLT, Nat.reduceLeDiff, Nat.reduceAdd, Nat.reduceMul, Nat.reduceSub, reduceCtorEq, Nat.reduceMod, Nat.reduceBEq, Int.reduceBEq, Int.reduceBNe, Int.reduceToNat, Try.f72]
      refine depth_spec l _ _ ?_
      simp -implicitDefEqProofs only [go_sem, ↓reduceIte, Nat.reduceEqDiff, Nat.reduceLT, Nat.reduceLeDiff, Nat.reduceAdd, Nat.reduceMul, Nat.reduceSub, reduceCtorEq, Nat.reduceMod, Nat.reduceBEq, Int.reduceBEq, Int.reduceBNe, Int.reduceToNat]
      refine depth_spec m _ _ ?_
      simp -implicitDefEqProofs only [go_sem, ↓reduceIte, Nat.reduceEqDiff, Nat.reduceLT, Nat.reduceLeDiff, Nat.reduceAdd, Nat.reduceMul, Nat.reduceSub, reduceCtorEq, Nat.reduceMod, Nat.reduceBEq, Int.reduceBEq, Int.reduceBNe, Int.reduceToNat, hw1, c1]
      refine depth_spec m _ _ ?_
      simp -implicitDefEqProofs only [go_sem, ↓reduceIte, Nat.reduceEqDiff, Nat.reduceLT, Nat.reduceLeDiff, Nat.reduceAdd, Nat.reduceMul, Nat.reduceSub, reduceCtorEq, Nat.reduceMod, Nat.reduceBEq, Int.reduceBEq, Int.reduceBNe, Int.reduceToNat]
      refine depth_spec l _ _ ?_
      simp -implicitDefEqProofs only [go_sem, ↓reduceIte, Nat.reduceEqDiff, Nat.reduceLT, Nat.reduceLeDiff, Nat.reduceAdd, Nat.reduceMul, Nat.reduceSub, reduceCtorEq, Nat.reduceMod, Nat.reduceBEq, Int.reduceBEq, Int.reduceBNe, Int.reduceToNat, hw2, c2]
      refine h4 _ _ ?_
      simp -implicitDefEqProofs only [go_sem, ↓reduceIte, Nat.reduceEqDiff, Nat.reduceLT, Nat.reduceLeDiff, Nat.reduceAdd, Nat.reduceMul, Nat.reduceSub, reduceCtorEq, Nat.reduceMod, Nat.reduceBEq, Int.reduceBEq, Int.reduceBNe, Int.reduceToNat]
      exact ⟨S, fun _ _ h => h, hK⟩
    · refine ⟨over l k v m, ok_over hl hm (by omega) (by omega), over_list l m k v, fun _ _ => rfl, fun S K hK => ?_⟩
      refine pcalls_of (C := C) (fun _ => false) (fun _ => false) Try.func72 rfl rfl (by simp [Try.f72]) ?_
      simp -implicitDefEqProofs only [go_sem, ↓reduceIte, Nat.reduceEqDiff, Nat.reduceLT, Nat.reduceLeDiff, Nat.reduceAdd, Nat.reduceMul, Nat.reduceSub, reduceCtorEq, Nat.reduceMod, Nat.reduceBEq, Int.reduceBEq, Int.reduceBNe, Int.reduceToNat, Try.f72]
      refine depth_spec l _ _ ?_
      simp -implicitDefEqProofs only [go_sem, ↓reduceIte, Nat.reduceEqDiff, Nat.reduceLT, Nat.reduceLeDiff, Nat.reduceAdd, Nat.reduceMul, Nat.reduceSub, reduceCtorEq, Nat.reduceMod, Nat.reduceBEq, Int.reduceBEq, Int.reduceBNe, Int.reduceToNat]
      refine depth_spec m _ _ ?_
      simp -implicitDefEqProofs only [go_sem, ↓reduceIte, Nat.reduceEqDiff, Nat.reduceLT, Nat.reduceLeDiff, Nat.reduceAdd, Nat.reduceMul, Nat.reduceSub, reduceCtorEq, Nat.reduceMod, Nat.reduceBEq, Int.reduceBEq, Int.reduceBNe, Int.reduceToNat, hw1, c1]
      refine depth_spec m _ _ ?_
      simp -implicitDefEqProofs only [go_sem, ↓reduceIte, Nat.reduceEqDiff, Nat.reduceLT, Nat.reduceLeDiff, Nat.reduceAdd, Nat.reduceMul, Nat.reduceSub, reduceCtorEq, Nat.reduceMod, Nat.reduceBEq, Int.reduceBEq, Int.reduceBNe, Int.reduceToNat]
      refine depth_spec l _ _ ?_
      simp -implicitDefEqProofs only [go_sem, ↓reduceIte, Nat.reduceEqDiff, Nat.reduceLT, Nat.reduceLeDiff, Nat.reduceAdd, Nat.reduceMul, Nat.reduceSub, reduceCtorEq, Nat.reduceMod, Nat.reduceBEq, Int.reduceBEq, Int.reduceBNe, Int.reduceToNat, hw2, c2]
      refine over_spec fl fm _ _ ?_
      simp -implicitDefEqProofs only [go_sem, ↓reduceIte, Nat.reduceEqDiff, Nat.reduceLT, Nat.reduceLeDiff, Nat.reduceAdd, Nat.reduceMul, Nat.reduceSub, reduceCtorEq, Nat.reduceMod, Nat.reduceBEq, Int.reduceBEq, Int.reduceBNe, Int.reduceToNat]
      exact ⟨S, fun _ _ h => h, hK⟩

theorem last_spec : ∀ (n : T), Ok n → n ≠ .nil → n.list.length ≤ 1000000 →
    ∃ r k v, Ok r ∧ n.list = r.list ++ [(k, v)] ∧ ∀ S, PRet Try.prog 73 [enc n] S (.tup [enc r, .agg [.str k, .str v]])
  | .nil, _, h, _ => absurd rfl h
  | .node k v l .nil d s, hn, _, hs => by
    obtain ⟨hl, _, _, _, _, _⟩ := hn
    refine ⟨l, k, v, hl, by simp [T.list], fun S K hK => ?_⟩
    refine pcalls_of (C := C) (fun _ => false) (fun _ => false) Try.func73 rfl rfl (by simp [Try.f73]) ?_
    simp -implicitDefEqProofs only [go_sem, ↓reduceIte, Nat.reduceEqDiff, Nat.reduceLT, Nat.reduceLeDiff, Nat.reduceAdd, Nat.reduceMul, Nat.reduceSub, reduceCtorEq, Nat.reduceMod, Nat.reduceBEq, Int.reduceBEq, Int.reduceBNe, Int.reduceToNat, Try.f73, enc_node, enc_nil]
    refine vwp_draw (by decide +kernel) ?_
    simp -implicitDefEqProofs only [go_sem, ↓reduceIte, Nat.reduceEqDiff, Nat.reduceLT, Nat.reduceLeDiff, Nat.reduceAdd, Nat.reduceMul, Nat.reduceSub, reduceCtorEq, Nat.reduceMod, Nat.reduceBEq, Int.reduceBEq, Int.reduceBNe, Int.reduceToNat]
    exact ⟨S, fun _ _ h => h, hK⟩
  | .node k v l (.node rk rv rl rr rd rs) d s, hn, _, hs => by
    obtain ⟨hl, hr, _, _, _, _⟩ := hn
    simp only [T.list, List.length_append, List.length_cons] at hs
    obtain ⟨q, qk, qv, h1, h2, h3⟩ := last_spec (.node rk rv rl rr rd rs) hr (by simp) (by simp only [T.list, List.length_append, List.length_cons]; omega)
    have hq : q.list.length + 1 = rl.list.length + (rr.list.length + 1) := by
      have := congrArg List.length h2
      simp only [T.list, List.length_append, List.length_cons, List.length_nil] at this
      omega
    obtain ⟨r, j1, j2, _, j4⟩ := join_spec hl h1 k v (by omega)
    refine ⟨r, qk, qv, j1, ?_, fun S K hK => ?_⟩
    · rw [T.list, h2, j2]; simp
    · refine pcalls_of (C := C) (fun _ => false) (fun _ => false) Try.func73 rfl rfl (by simp [Try.f73]) ?_
      simp -implicitDefEqProofs only [go_sem, ↓reduceIte, Nat.reduceEqDiff, Nat.reduceLT, Nat.reduceLeDiff, Nat.reduceAdd, Nat.reduceMul, Nat.reduceSub, reduceCtorEq, Nat.reduceMod, Nat.reduceBEq, Int.reduceBEq, Int.reduceBNe, Int.reduceToNat, Try.f73, enc_node]
      refine h3 _ _ ?_
      simp -implicitDefEqProofs only [go_sem, ↓reduceIte, Nat.reduceEqDiff, Nat.reduceLT, Nat.reduceLeDiff, Nat.reduceAdd, Nat.reduceMul, Nat.reduceSub, reduceCtorEq, Nat.reduceMod, Nat.reduceBEq, Int.reduceBEq, Int.reduceBNe, Int.reduceToNat]
      refine vwp_draw (by decide +kernel) ?_
      simp -implicitDefEqProofs only [go_sem, ↓reduceIte, Nat.reduceEqDiff, Nat.reduceLT, Nat.reduceLeDiff, Nat.reduceAdd, Nat.reduceMul, Nat.reduceSub, reduceCtorEq, Nat.reduceMod, Nat.reduceBEq, Int.reduceBEq, Int.reduceBNe, Int.reduceToNat]
      refine q_call _ (by simp -implicitDefEqProofs only [go_sem, ↓reduceIte, Nat.reduceEqDiff, Nat.reduceLT, Nat.reduceLeDiff, Nat.reduceAdd, Nat.reduceMul, Nat.reduceSub, reduceCtorEq, Nat.reduceMod, Nat.reduceBEq, Int.reduceBEq, Int.reduceBNe, Int.reduceToNat]; exact j4 _) (by decide) rfl ?_
      simp -implicitDefEqProofs only [go_sem, ↓reduceIte, Nat.reduceEqDiff, Nat.reduceLT, Nat.reduceLeDiff, Nat.reduceAdd, Nat.reduceMul, Nat.reduceSub, reduceCtorEq, Nat.reduceMod, Nat.reduceBEq, Int.reduceBEq, Int.reduceBNe, Int.reduceToNat]
      exact ⟨S, fun _ _ h => h, hK⟩

theorem glue_spec {l m : T} (hl : Ok l) (hm : Ok m) (hn : l.list.length + m.list.length ≤ 1000000) :
    ∃ r, Ok r ∧ r.list = l.list ++ m.list ∧ ∀ S, PRet Try.prog 66 [enc l, enc m] S (enc r) := by
  cases l with
  | nil =>
    refine ⟨m, hm, by simp [T.list], fun S K hK => ?_⟩
    refine pcalls_of (C := C) (fun _ => false) (fun _ => false) Try.func66 rfl rfl (by simp [Try.f66]) ?_
    simp -implicitDefEqProofs only [go_sem, ↓reduceIte, Nat.reduceEqDiff, Nat.reduceLT, Nat.reduceLeDiff, Nat.reduceAdd, Nat.reduceMul, Nat.reduceSub, reduceCtorEq, Nat.reduceMod, Nat.reduceBEq, Int.reduceBEq, Int.reduceBNe, Int.reduceToNat, Try.f66, enc_nil]
    exact ⟨S, fun _ _ h => h, hK⟩
  | node k v a b d s =>
    obtain ⟨q, qk, qv, h1, h2, h3⟩ := last_spec _ hl (by simp) (by omega)
    have hq : (T.node k v a b d s).list.length = q.list.length + 1 := by rw [h2]; simp
    obtain ⟨r, j1, j2, _, j4⟩ := join_spec h1 hm qk qv (by omega)
    refine ⟨r, j1, by rw [h2, j2]; simp, fun S K hK => ?_⟩
    refine pcalls_of (C := C) (fun _ => false) (fun _ => false) Try.func66 rfl rfl (by simp [Try.f66]) ?_
    simp -implicitDefEqProofs only [go_sem, ↓reduceIte, Nat.reduceEqDiff, Nat.reduceLT, Nat.reduceLeDiff, Nat.reduceAdd, Nat.reduceMul, Nat.reduceSub, reduceCtorEq, Nat.reduceMod, Nat.reduceBEq, Int.reduceBEq, Int.reduceBNe, Int.reduceToNat, Try.f66, enc_node]
    refine h3 _ _ ?_
    simp -implicitDefEqProofs only [go_sem, ↓reduceIte, Nat.reduceEqDiff, Nat.reduceLT, Nat.reduceLeDiff, Nat.reduceAdd, Nat.reduceMul, Nat.reduceSub, reduceCtorEq, Nat.reduceMod, Nat.reduceBEq, Int.reduceBEq, Int.reduceBNe, Int.reduceToNat]
    refine j4 _ _ ?_
    simp -implicitDefEqProofs only [go_sem, ↓reduceIte, Nat.reduceEqDiff, Nat.reduceLT, Nat.reduceLeDiff, Nat.reduceAdd, Nat.reduceMul, Nat.reduceSub, reduceCtorEq, Nat.reduceMod, Nat.reduceBEq, Int.reduceBEq, Int.reduceBNe, Int.reduceToNat]
    exact ⟨S, fun _ _ h => h, hK⟩
end Go.Proofs.Ytmedhhjbknnfkaa.V
