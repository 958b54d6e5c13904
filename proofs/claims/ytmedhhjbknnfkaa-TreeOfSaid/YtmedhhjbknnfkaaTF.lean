/- Trees: what is less, what is more; found, put, dropped. -/
import Derived.Test.YtmedhhjbknnfkaaTE
set_option linter.unusedVariables false
set_option linter.unusedSimpArgs false
namespace Go.Proofs.Ytmedhhjbknnfkaa.V
open Go Go.VL

def At (key : ByteArray) (L : List Pr) (c : T) : Prop :=
  match look key L with
  | none => c = .nil
  | some v => ∃ l r d s, c = .node key v l r d s

theorem below_len (k : ByteArray) (L : List Pr) : (below k L).length ≤ L.length := List.length_filter_le _ _
theorem above_len (k : ByteArray) (L : List Pr) : (above k L).length ≤ L.length := List.length_filter_le _ _

theorem split_spec (key : ByteArray) : ∀ n : T, Ok n → Sorted n.list → n.list.length ≤ 1000000 → ∃ a b c, Ok a ∧ Ok b ∧ a.list = below key n.list ∧ b.list = above key n.list ∧ At key n.list c ∧
    (∀ k v l r d s, n = .node k v l r d s → k = key → a = l ∧ b = r ∧ c = n) ∧ ∀ S, PRet Try.prog 65 [enc n, .str key] S (.tup [enc a, enc b, enc c])
  | .nil, _, _, _ => by
    refine ⟨.nil, .nil, .nil, trivial, trivial, rfl, rfl, rfl, (fun _ _ _ _ _ _ h => by cases h), fun S K hK => ?_⟩
    refine pcalls_of (C := C) (fun _ => false) (fun _ => false) Try.func65 rfl rfl (by simp [Try.f65]) ?_
    simp -implicitDefEqProofs only [go_sem, ↓reduceIte, Nat.reduceEqDiff, Nat.reduceLT, Nat.reduceLeDiff, Nat.reduceAdd, Nat.reduceMul, Nat.reduceSub, reduceCtorEq, Nat.reduceMod, Nat.reduceBEq, Int.reduceBEq, Int.reduceBNe, Int.reduceToNat, Try.f65, enc_nil]
    exact ⟨S, fun _ _ h => h, hK⟩
  | .node k v l r d s, hn, hso, hs => by
    have hno := hn
    obtain ⟨hl, hr, _, _, _, _⟩ := hn
    simp only [T.list] at hso
    simp only [T.list, List.length_append, List.length_cons] at hs
    obtain ⟨sl, sr, _, _⟩ := sorted_mid hso
    rcases (Bool.eq_false_or_eq_true (lt key k)).symm with c1 | c1
    · rcases (Bool.eq_false_or_eq_true (lt k key)).symm with c2 | c2
      · have hk : k = key := lt_tri c2 c1
        subst hk
        obtain ⟨e1, e2, e3⟩ := mid_at hso
        refine ⟨l, r, .node k v l r d s, hl, hr, e1.symm, e2.symm, ?_, fun _ _ _ _ _ _ h _ => by cases h; exact ⟨rfl, rfl, rfl⟩, fun S K hK => ?_⟩
        · unfold At
          rw [T.list, e3]
          exact ⟨l, r, d, s, rfl⟩
        · refine pcalls_of (C := C) (fun _ => false) (fun _ => false) Try.func65 rfl rfl (by simp [Try.f65]) ?_
          simp -implicitDefEqProofs only [go_sem, ↓reduceIte, Nat.reduceEqDiff, Nat.reduceLT, Nat.reduceLeDiff, Nat.reduceAdd, Nat.reduceMul, Nat.reduceSub, reduceCtorEq, Nat.reduceMod, Nat.reduceBEq, Int.reduceBEq, Int.reduceBNe, Int.reduceToNat, Try.f65, enc_node, c1]
          refine vwp_draw (by decide +kernel) ?_
          simp -implicitDefEqProofs only [go_sem, ↓reduceIte, Nat.reduceEqDiff, Nat.reduceLT, Nat.reduceLeDiff, Nat.reduceAdd, Nat.reduceMul, Nat.reduceSub, reduceCtorEq, Nat.reduceMod, Nat.reduceBEq, Int.reduceBEq, Int.reduceBNe, Int.reduceToNat]
          exact ⟨S, fun _ _ h => h, hK⟩
      · obtain ⟨e1, e2, e3⟩ := mid_more hso c2
        obtain ⟨a, b, c, h1, h2, h3, h4, h5, _, h7⟩ := split_spec key r hr sr (by omega)
        have := below_len key r.list
        obtain ⟨q, j1, j2, _, j4⟩ := join_spec hl h1 k v (by rw [h3]; omega)
        refine ⟨q, b, c, j1, h2, by rw [j2, h3, T.list, e1], by rw [h4, T.list, e2], ?_, fun _ _ _ _ _ _ h hk => ?_, fun S K hK => ?_⟩
        · unfold At at h5 ⊢
          rw [T.list, e3]
          exact h5
        · cases h; rw [hk, lt_irrefl] at c2; cases c2
        · refine pcalls_of (C := C) (fun _ => false) (fun _ => false) Try.func65 rfl rfl (by simp [Try.f65]) ?_
          have c3 : same key k = false := same_gt c2
          simp -implicitDefEqProofs only [go_sem, ↓reduceIte, Nat.reduceEqDiff, Nat.reduceLT, Nat.reduceLeDiff, Nat.reduceAdd, Nat.reduceMul, Nat.reduceSub, reduceCtorEq, Nat.reduceMod, Nat.reduceBEq, Int.reduceBEq, Int.reduceBNe, Int.reduceToNat, Try.f65, enc_node, c1, c2, c3]
          refine h7 _ _ ?_
          simp -implicitDefEqProofs only [go_sem, ↓reduceIte, Nat.reduceEqDiff, Nat.reduceLT, Nat.reduceLeDiff, Nat.reduceAdd, Nat.reduceMul, Nat.reduceSub, reduceCtorEq, Nat.reduceMod, Nat.reduceBEq, Int.reduceBEq, Int.reduceBNe, Int.reduceToNat]
          refine vwp_draw (by decide +kernel) ?_
          simp -implicitDefEqProofs only [go_sem, ↓reduceIte, Nat.reduceEqDiff, Nat.reduceLT, Nat.reduceLeDiff, Nat.reduceAdd, Nat.reduceMul, Nat.reduceSub, reduceCtorEq, Nat.reduceMod, Nat.reduceBEq, Int.reduceBEq, Int.reduceBNe, Int.reduceToNat]
          refine q_call _ (by simp -implicitDefEqProofs only [go_sem, ↓reduceIte, Nat.reduceEqDiff, Nat.reduceLT, Nat.reduceLeDiff, Nat.reduceAdd, Nat.reduceMul, Nat.reduceSub, reduceCtorEq, Nat.reduceMod, Nat.reduceBEq, Int.reduceBEq, Int.reduceBNe, Int.reduceToNat]; exact j4 _) (by decide) rfl ?_
          simp -implicitDefEqProofs only [go_sem, ↓reduceIte, Nat.reduceEqDiff, Nat.reduceLT, Nat.reduceLeDiff, Nat.reduceAdd, Nat.reduceMul, Nat.reduceSub, reduceCtorEq, Nat.reduceMod, Nat.reduceBEq, Int.reduceBEq, Int.reduceBNe, Int.reduceToNat]
          exact ⟨S, fun _ _ h => h, hK⟩
    · obtain ⟨e1, e2, e3⟩ := mid_less hso c1
      obtain ⟨a, b, c, h1, h2, h3, h4, h5, _, h7⟩ := split_spec key l hl sl (by omega)
      have := above_len key l.list
      obtain ⟨q, j1, j2, _, j4⟩ := join_spec h2 hr k v (by rw [h4]; omega)
      refine ⟨a, q, c, h1, j1, by rw [h3, T.list, e1], by rw [j2, h4, T.list, e2], ?_, fun _ _ _ _ _ _ h hk => ?_, fun S K hK => ?_⟩
      · unfold At at h5 ⊢
        rw [T.list, e3]
        exact h5
      · cases h; rw [hk, lt_irrefl] at c1; cases c1
      · refine pcalls_of (C := C) (fun _ => false) (fun _ => false) Try.func65 rfl rfl (by simp [Try.f65]) ?_
        simp -implicitDefEqProofs only [go_sem, ↓reduceIte, Nat.reduceEqDiff, Nat.reduceLT, Nat.reduceLeDiff, Nat.reduceAdd, Nat.reduceMul, Nat.reduceSub, reduceCtorEq, Nat.reduceMod, Nat.reduceBEq, Int.reduceBEq, Int.reduceBNe, Int.reduceToNat, Try.f65, enc_node, c1]
        refine h7 _ _ ?_
        simp -implicitDefEqProofs only [go_sem, ↓reduceIte, Nat.reduceEqDiff, Nat.reduceLT, Nat.reduceLeDiff, Nat.reduceAdd, Nat.reduceMul, Nat.reduceSub, reduceCtorEq, Nat.reduceMod, Nat.reduceBEq, Int.reduceBEq, Int.reduceBNe, Int.reduceToNat]
        refine vwp_draw (by decide +kernel) ?_
        simp -implicitDefEqProofs only [go_sem, ↓reduceIte, Nat.reduceEqDiff, Nat.reduceLT, Nat.reduceLeDiff, Nat.reduceAdd, Nat.reduceMul, Nat.reduceSub, reduceCtorEq, Nat.reduceMod, Nat.reduceBEq, Int.reduceBEq, Int.reduceBNe, Int.reduceToNat]
        refine q_call _ (by simp -implicitDefEqProofs only [go_sem, ↓reduceIte, Nat.reduceEqDiff, Nat.reduceLT, Nat.reduceLeDiff, Nat.reduceAdd, Nat.reduceMul, Nat.reduceSub, reduceCtorEq, Nat.reduceMod, Nat.reduceBEq, Int.reduceBEq, Int.reduceBNe, Int.reduceToNat]; exact j4 _) (by decide) rfl ?_
        simp -implicitDefEqProofs only [go_sem, ↓reduceIte, Nat.reduceEqDiff, Nat.reduceLT, Nat.reduceLeDiff, Nat.reduceAdd, Nat.reduceMul, Nat.reduceSub, reduceCtorEq, Nat.reduceMod, Nat.reduceBEq, Int.reduceBEq, Int.reduceBNe, Int.reduceToNat]
        exact ⟨S, fun _ _ h => h, hK⟩

theorem put_spec (key w : ByteArray) : ∀ n : T, Ok n → Sorted n.list → n.list.length ≤ 900000 → ∃ q, Ok q ∧ q.list = putL key w n.list ∧ ∀ S, PRet Try.prog 58 [enc n, .agg [.str key, .str w]] S (enc q)
  | .nil, _, _, _ => by
    refine ⟨over .nil key w .nil, ok_over trivial trivial (by decide) (by decide), rfl, fun S K hK => ?_⟩
    refine pcalls_of (C := C) (fun _ => false) (fun _ => false) Try.func58 rfl rfl (by simp [Try.f58]) ?_
    simp -implicitDefEqProofs only [go_sem, ↓reduceIte, Nat.reduceEqDiff, Nat.reduceLT, Nat.reduceLeDiff, Nat.reduceAdd, Nat.reduceMul, Nat.reduceSub, reduceCtorEq, Nat.reduceMod, Nat.reduceBEq, Int.reduceBEq, Int.reduceBNe, Int.reduceToNat, Try.f58, enc_nil]
    refine over_spec (l := .nil) (m := .nil) (k := key) (v := w) ?_ ?_ _ _ ?_
    · unfold Few; decide
    · unfold Few; decide
    simp -implicitDefEqProofs only [go_sem, ↓reduceIte, Nat.reduceEqDiff, Nat.reduceLT, Nat.reduceLeDiff, Nat.reduceAdd, Nat.reduceMul, Nat.reduceSub, reduceCtorEq, Nat.reduceMod, Nat.reduceBEq, Int.reduceBEq, Int.reduceBNe, Int.reduceToNat]
    exact ⟨S, fun _ _ h => h, hK⟩
  | .node k v l r d s, hn, hso, hs => by
    have hno := hn
    obtain ⟨hl, hr, _, _, hb1, hb2⟩ := hn
    simp only [T.list] at hso
    simp only [T.list, List.length_append, List.length_cons] at hs
    obtain ⟨sl, sr, _, _⟩ := sorted_mid hso
    rcases (Bool.eq_false_or_eq_true (lt key k)).symm with c1 | c1
    · rcases (Bool.eq_false_or_eq_true (lt k key)).symm with c2 | c2
      · have hk : k = key := lt_tri c2 c1
        subst hk
        refine ⟨over l k w r, ok_over hl hr hb1 hb2, by rw [over_list, T.list, put_at hso], fun S K hK => ?_⟩
        refine pcalls_of (C := C) (fun _ => false) (fun _ => false) Try.func58 rfl rfl (by simp [Try.f58]) ?_
        simp -implicitDefEqProofs only [go_sem, ↓reduceIte, Nat.reduceEqDiff, Nat.reduceLT, Nat.reduceLeDiff, Nat.reduceAdd, Nat.reduceMul, Nat.reduceSub, reduceCtorEq, Nat.reduceMod, Nat.reduceBEq, Int.reduceBEq, Int.reduceBNe, Int.reduceToNat, Try.f58, enc_node]
        refine vwp_draw (by decide +kernel) ?_
        simp -implicitDefEqProofs only [go_sem, ↓reduceIte, Nat.reduceEqDiff, Nat.reduceLT, Nat.reduceLeDiff, Nat.reduceAdd, Nat.reduceMul, Nat.reduceSub, reduceCtorEq, Nat.reduceMod, Nat.reduceBEq, Int.reduceBEq, Int.reduceBNe, Int.reduceToNat, c1]
        refine vwp_draw (by decide +kernel) ?_
        simp -implicitDefEqProofs only [go_sem, ↓reduceIte, Nat.reduceEqDiff, Nat.reduceLT, Nat.reduceLeDiff, Nat.reduceAdd, Nat.reduceMul, Nat.reduceSub, reduceCtorEq, Nat.reduceMod, Nat.reduceBEq, Int.reduceBEq, Int.reduceBNe, Int.reduceToNat, c1]
        refine vwp_draw (by decide +kernel) ?_
        simp -implicitDefEqProofs only [go_sem, ↓reduceIte, Nat.reduceEqDiff, Nat.reduceLT, Nat.reduceLeDiff, Nat.reduceAdd, Nat.reduceMul, Nat.reduceSub, reduceCtorEq, Nat.reduceMod, Nat.reduceBEq, Int.reduceBEq, Int.reduceBNe, Int.reduceToNat]
        refine q_call _ (by simp -implicitDefEqProofs only [go_sem, ↓reduceIte, Nat.reduceEqDiff, Nat.reduceLT, Nat.reduceLeDiff, Nat.reduceAdd, Nat.reduceMul, Nat.reduceSub, reduceCtorEq, Nat.reduceMod, Nat.reduceBEq, Int.reduceBEq, Int.reduceBNe, Int.reduceToNat]; exact over_spec ((ok_n hl).few (by omega)) ((ok_n hr).few (by omega)) _) (by decide) rfl ?_
        simp -implicitDefEqProofs only [go_sem, ↓reduceIte, Nat.reduceEqDiff, Nat.reduceLT, Nat.reduceLeDiff, Nat.reduceAdd, Nat.reduceMul, Nat.reduceSub, reduceCtorEq, Nat.reduceMod, Nat.reduceBEq, Int.reduceBEq, Int.reduceBNe, Int.reduceToNat]
        exact ⟨S, fun _ _ h => h, hK⟩
      · obtain ⟨a, h1, h2, h3⟩ := put_spec key w r hr sr (by omega)
        have := put_len sr key w
        obtain ⟨q, j1, j2, _, j4⟩ := join_spec hl h1 k v (by rw [h2]; omega)
        refine ⟨q, j1, by rw [j2, h2, T.list, put_more hso c2], fun S K hK => ?_⟩
        refine pcalls_of (C := C) (fun _ => false) (fun _ => false) Try.func58 rfl rfl (by simp [Try.f58]) ?_
        simp -implicitDefEqProofs only [go_sem, ↓reduceIte, Nat.reduceEqDiff, Nat.reduceLT, Nat.reduceLeDiff, Nat.reduceAdd, Nat.reduceMul, Nat.reduceSub, reduceCtorEq, Nat.reduceMod, Nat.reduceBEq, Int.reduceBEq, Int.reduceBNe, Int.reduceToNat, Try.f58, enc_node]
        refine vwp_draw (by decide +kernel) ?_
        simp -implicitDefEqProofs only [go_sem, ↓reduceIte, Nat.reduceEqDiff, Nat.reduceLT, Nat.reduceLeDiff, Nat.reduceAdd, Nat.reduceMul, Nat.reduceSub, reduceCtorEq, Nat.reduceMod, Nat.reduceBEq, Int.reduceBEq, Int.reduceBNe, Int.reduceToNat, c1]
        refine vwp_draw (by decide +kernel) ?_
        simp -implicitDefEqProofs only [go_sem, ↓reduceIte, Nat.reduceEqDiff, Nat.reduceLT, Nat.reduceLeDiff, Nat.reduceAdd, Nat.reduceMul, Nat.reduceSub, reduceCtorEq, Nat.reduceMod, Nat.reduceBEq, Int.reduceBEq, Int.reduceBNe, Int.reduceToNat, c2]
        refine vwp_draw (by decide +kernel) ?_
        simp -implicitDefEqProofs only [go_sem, ↓reduceIte, Nat.reduceEqDiff, Nat.reduceLT, Nat.reduceLeDiff, Nat.reduceAdd, Nat.reduceMul, Nat.reduceSub, reduceCtorEq, Nat.reduceMod, Nat.reduceBEq, Int.reduceBEq, Int.reduceBNe, Int.reduceToNat]
        refine q_call _ (by simp -implicitDefEqProofs only [go_sem, ↓reduceIte, Nat.reduceEqDiff, Nat.reduceLT, Nat.reduceLeDiff, Nat.reduceAdd, Nat.reduceMul, Nat.reduceSub, reduceCtorEq, Nat.reduceMod, Nat.reduceBEq, Int.reduceBEq, Int.reduceBNe, Int.reduceToNat]; exact h3 _) (by decide) rfl ?_
        refine q_call _ (by simp -implicitDefEqProofs only [go_sem, ↓reduceIte, Nat.reduceEqDiff, Nat.reduceLT, Nat.reduceLeDiff, Nat.reduceAdd, Nat.reduceMul, Nat.reduceSub, reduceCtorEq, Nat.reduceMod, Nat.reduceBEq, Int.reduceBEq, Int.reduceBNe, Int.reduceToNat]; exact j4 _) (by decide) rfl ?_
        simp -implicitDefEqProofs only [go_sem, ↓reduceIte, Nat.reduceEqDiff, Nat.reduceLT, Nat.reduceLeDiff, Nat.reduceAdd, Nat.reduceMul, Nat.reduceSub, reduceCtorEq, Nat.reduceMod, Nat.reduceBEq, Int.reduceBEq, Int.reduceBNe, Int.reduceToNat]
        exact ⟨S, fun _ _ h => h, hK⟩
    · obtain ⟨a, h1, h2, h3⟩ := put_spec key w l hl sl (by omega)
      have := put_len sl key w
      obtain ⟨q, j1, j2, _, j4⟩ := join_spec h1 hr k v (by rw [h2]; omega)
      refine ⟨q, j1, by rw [j2, h2, T.list, put_less hso c1], fun S K hK => ?_⟩
      refine pcalls_of (C := C) (fun _ => false) (fun _ => false) Try.func58 rfl rfl (by simp [Try.f58]) ?_
      simp -implicitDefEqProofs only [go_sem, ↓reduceIte, Nat.reduceEqDiff, Nat.reduceLT, Nat.reduceLeDiff, Nat.reduceAdd, Nat.reduceMul, Nat.reduceSub, reduceCtorEq, Nat.reduceMod, Nat.reduceBEq, Int.reduceBEq, Int.reduceBNe, Int.reduceToNat, Try.f58, enc_node]
      refine vwp_draw (by decide +kernel) ?_
      simp -implicitDefEqProofs only [go_sem, ↓reduceIte, Nat.reduceEqDiff, Nat.reduceLT, Nat.reduceLeDiff, Nat.reduceAdd, Nat.reduceMul, Nat.reduceSub, reduceCtorEq, Nat.reduceMod, Nat.reduceBEq, Int.reduceBEq, Int.reduceBNe, Int.reduceToNat, c1]
      refine vwp_draw (by decide +kernel) ?_
      simp -implicitDefEqProofs only [go_sem, ↓reduceIte, Nat.reduceEqDiff, Nat.reduceLT, Nat.reduceLeDiff, Nat.reduceAdd, Nat.reduceMul, Nat.reduceSub, reduceCtorEq, Nat.reduceMod, Nat.reduceBEq, Int.reduceBEq, Int.reduceBNe, Int.reduceToNat]
      refine q_call _ (by simp -implicitDefEqProofs only [go_sem, ↓reduceIte, Nat.reduceEqDiff, Nat.reduceLT, Nat.reduceLeDiff, Nat.reduceAdd, Nat.reduceMul, Nat.reduceSub, reduceCtorEq, Nat.reduceMod, Nat.reduceBEq, Int.reduceBEq, Int.reduceBNe, Int.reduceToNat]; exact h3 _) (by decide) rfl ?_
      simp -implicitDefEqProofs only [go_sem, ↓reduceIte, Nat.reduceEqDiff, Nat.reduceLT, Nat.reduceLeDiff, Nat.reduceAdd, Nat.reduceMul, Nat.reduceSub, reduceCtorEq, Nat.reduceMod, Nat.reduceBEq, Int.reduceBEq, Int.reduceBNe, Int.reduceToNat]
      refine q_call _ (by simp -implicitDefEqProofs only [go_sem, ↓reduceIte, Nat.reduceEqDiff, Nat.reduceLT, Nat.reduceLeDiff, Nat.reduceAdd, Nat.reduceMul, Nat.reduceSub, reduceCtorEq, Nat.reduceMod, Nat.reduceBEq, Int.reduceBEq, Int.reduceBNe, Int.reduceToNat]; exact j4 _) (by decide) rfl ?_
      simp -implicitDefEqProofs only [go_sem, ↓reduceIte, Nat.reduceEqDiff, Nat.reduceLT, Nat.reduceLeDiff, Nat.reduceAdd, Nat.reduceMul, Nat.reduceSub, reduceCtorEq, Nat.reduceMod, Nat.reduceBEq, Int.reduceBEq, Int.reduceBNe, Int.reduceToNat]
      exact ⟨S, fun _ _ h => h, hK⟩

theorem drop_less {A B : List Pr} {k v x : ByteArray} (h : Sorted (A ++ (k, v) :: B)) (hx : lt x k = true) : dropL x (A ++ (k, v) :: B) = dropL x A ++ (k, v) :: B := by
  obtain ⟨e1, e2, _⟩ := mid_less h hx
  rw [drop_two h, e1, e2, drop_two (sorted_mid h).1]
  simp
theorem drop_more {A B : List Pr} {k v x : ByteArray} (h : Sorted (A ++ (k, v) :: B)) (hx : lt k x = true) : dropL x (A ++ (k, v) :: B) = A ++ (k, v) :: dropL x B := by
  obtain ⟨e1, e2, _⟩ := mid_more h hx
  rw [drop_two h, e1, e2, drop_two (sorted_mid h).2.1]
  simp
theorem drop_at {A B : List Pr} {k v : ByteArray} (h : Sorted (A ++ (k, v) :: B)) : dropL k (A ++ (k, v) :: B) = A ++ B := by
  obtain ⟨e1, e2, _⟩ := mid_at h
  rw [drop_two h, e1, e2]

theorem drop_spec (key : ByteArray) : ∀ n : T, Ok n → Sorted n.list → n.list.length ≤ 900000 → ∃ q, Ok q ∧ q.list = dropL key n.list ∧ ∀ S, PRet Try.prog 64 [enc n, .str key] S (enc q)
  | .nil, _, _, _ => by
    refine ⟨.nil, trivial, rfl, fun S K hK => ?_⟩
    refine pcalls_of (C := C) (fun _ => false) (fun _ => false) Try.func64 rfl rfl (by simp [Try.f64]) ?_
    simp -implicitDefEqProofs only [go_sem, ↓reduceIte, Nat.reduceEqDiff, Nat.reduceLT, Nat.reduceLeDiff, Nat.reduceAdd, Nat.reduceMul, Nat.reduceSub, reduceCtorEq, Nat.reduceMod, Nat.reduceBEq, Int.reduceBEq, Int.reduceBNe, Int.reduceToNat, Try.f64, enc_nil]
    exact ⟨S, fun _ _ h => h, hK⟩
  | .node k v l r d s, hn, hso, hs => by
    have hno := hn
    obtain ⟨hl, hr, _, _, hb1, hb2⟩ := hn
    simp only [T.list] at hso
    simp only [T.list, List.length_append, List.length_cons] at hs
    obtain ⟨sl, sr, _, _⟩ := sorted_mid hso
    rcases (Bool.eq_false_or_eq_true (lt key k)).symm with c1 | c1
    · rcases (Bool.eq_false_or_eq_true (lt k key)).symm with c2 | c2
      · have hk : k = key := lt_tri c2 c1
        subst hk
        obtain ⟨q, j1, j2, j4⟩ := glue_spec hl hr (by omega)
        refine ⟨q, j1, by rw [j2, T.list, drop_at hso], fun S K hK => ?_⟩
        refine pcalls_of (C := C) (fun _ => false) (fun _ => false) Try.func64 rfl rfl (by simp [Try.f64]) ?_
        simp -implicitDefEqProofs only [go_sem, ↓reduceIte, Nat.reduceEqDiff, Nat.reduceLT, Nat.reduceLeDiff, Nat.reduceAdd, Nat.reduceMul, Nat.reduceSub, reduceCtorEq, Nat.reduceMod, Nat.reduceBEq, Int.reduceBEq, Int.reduceBNe, Int.reduceToNat, Try.f64, enc_node, c1]
        refine vwp_draw (by decide +kernel) ?_
        simp -implicitDefEqProofs only [go_sem, ↓reduceIte, Nat.reduceEqDiff, Nat.reduceLT, Nat.reduceLeDiff, Nat.reduceAdd, Nat.reduceMul, Nat.reduceSub, reduceCtorEq, Nat.reduceMod, Nat.reduceBEq, Int.reduceBEq, Int.reduceBNe, Int.reduceToNat]
        refine q_call _ (by simp -implicitDefEqProofs only [go_sem, ↓reduceIte, Nat.reduceEqDiff, Nat.reduceLT, Nat.reduceLeDiff, Nat.reduceAdd, Nat.reduceMul, Nat.reduceSub, reduceCtorEq, Nat.reduceMod, Nat.reduceBEq, Int.reduceBEq, Int.reduceBNe, Int.reduceToNat]; exact j4 _) (by decide) rfl ?_
        simp -implicitDefEqProofs only [go_sem, ↓reduceIte, Nat.reduceEqDiff, Nat.reduceLT, Nat.reduceLeDiff, Nat.reduceAdd, Nat.reduceMul, Nat.reduceSub, reduceCtorEq, Nat.reduceMod, Nat.reduceBEq, Int.reduceBEq, Int.reduceBNe, Int.reduceToNat]
        exact ⟨S, fun _ _ h => h, hK⟩
      · obtain ⟨a, h1, h2, h3⟩ := drop_spec key r hr sr (by omega)
        have := drop_len r.list key
        obtain ⟨q, j1, j2, _, j4⟩ := join_spec hl h1 k v (by rw [h2]; omega)
        refine ⟨q, j1, by rw [j2, h2, T.list, drop_more hso c2], fun S K hK => ?_⟩
        refine pcalls_of (C := C) (fun _ => false) (fun _ => false) Try.func64 rfl rfl (by simp [Try.f64]) ?_
        have c3 : same key k = false := same_gt c2
        simp -implicitDefEqProofs only [go_sem, ↓reduceIte, Nat.reduceEqDiff, Nat.reduceLT, Nat.reduceLeDiff, Nat.reduceAdd, Nat.reduceMul, Nat.reduceSub, reduceCtorEq, Nat.reduceMod, Nat.reduceBEq, Int.reduceBEq, Int.reduceBNe, Int.reduceToNat, Try.f64, enc_node, c1, c2, c3]
        refine vwp_draw (by decide +kernel) ?_
        simp -implicitDefEqProofs only [go_sem, ↓reduceIte, Nat.reduceEqDiff, Nat.reduceLT, Nat.reduceLeDiff, Nat.reduceAdd, Nat.reduceMul, Nat.reduceSub, reduceCtorEq, Nat.reduceMod, Nat.reduceBEq, Int.reduceBEq, Int.reduceBNe, Int.reduceToNat]
        refine q_call _ (by simp -implicitDefEqProofs only [go_sem, ↓reduceIte, Nat.reduceEqDiff, Nat.reduceLT, Nat.reduceLeDiff, Nat.reduceAdd, Nat.reduceMul, Nat.reduceSub, reduceCtorEq, Nat.reduceMod, Nat.reduceBEq, Int.reduceBEq, Int.reduceBNe, Int.reduceToNat]; exact h3 _) (by decide) rfl ?_
        refine q_call _ (by simp -implicitDefEqProofs only [go_sem, ↓reduceIte, Nat.reduceEqDiff, Nat.reduceLT, Nat.reduceLeDiff, Nat.reduceAdd, Nat.reduceMul, Nat.reduceSub, reduceCtorEq, Nat.reduceMod, Nat.reduceBEq, Int.reduceBEq, Int.reduceBNe, Int.reduceToNat]; exact j4 _) (by decide) rfl ?_
        simp -implicitDefEqProofs only [go_sem, ↓reduceIte, Nat.reduceEqDiff, Nat.reduceLT, Nat.reduceLeDiff, Nat.reduceAdd, Nat.reduceMul, Nat.reduceSub, reduceCtorEq, Nat.reduceMod, Nat.reduceBEq, Int.reduceBEq, Int.reduceBNe, Int.reduceToNat]
        exact ⟨S, fun _ _ h => h, hK⟩
    · obtain ⟨a, h1, h2, h3⟩ := drop_spec key l hl sl (by omega)
      have := drop_len l.list key
      obtain ⟨q, j1, j2, _, j4⟩ := join_spec h1 hr k v (by rw [h2]; omega)
      refine ⟨q, j1, by rw [j2, h2, T.list, drop_less hso c1], fun S K hK => ?_⟩
      refine pcalls_of (C := C) (fun _ => false) (fun _ => false) Try.func64 rfl rfl (by simp [Try.f64]) ?_
      simp -implicitDefEqProofs only [go_sem, ↓reduceIte, Nat.reduceEqDiff, Nat.reduceLT, Nat.reduceLeDiff, Nat.reduceAdd, Nat.reduceMul, Nat.reduceSub, reduceCtorEq, Nat.reduceMod, Nat.reduceBEq, Int.reduceBEq, Int.reduceBNe, Int.reduceToNat, Try.f64, enc_node, c1]
      refine vwp_draw (by decide +kernel) ?_
      simp -implicitDefEqProofs only [go_sem, ↓reduceIte, Nat.reduceEqDiff, Nat.reduceLT, Nat.reduceLeDiff, Nat.reduceAdd, Nat.reduceMul, Nat.reduceSub, reduceCtorEq, Nat.reduceMod, Nat.reduceBEq, Int.reduceBEq, Int.reduceBNe, Int.reduceToNat]
      refine q_call _ (by simp -implicitDefEqProofs only [go_sem, ↓reduceIte, Nat.reduceEqDiff, Nat.reduceLT, Nat.reduceLeDiff, Nat.reduceAdd, Nat.reduceMul, Nat.reduceSub, reduceCtorEq, Nat.reduceMod, Nat.reduceBEq, Int.reduceBEq, Int.reduceBNe, Int.reduceToNat]; exact h3 _) (by decide) rfl ?_
      simp -implicitDefEqProofs only [go_sem, ↓reduceIte, Nat.reduceEqDiff, Nat.reduceLT, Nat.reduceLeDiff, Nat.reduceAdd, Nat.reduceMul, Nat.reduceSub, reduceCtorEq, Nat.reduceMod, Nat.reduceBEq, Int.reduceBEq, Int.reduceBNe, Int.reduceToNat]
      refine q_call _ (by simp -implicitDefEqProofs only [go_sem, ↓reduceIte, Nat.reduceEqDiff, Nat.reduceLT, Nat.reduceLeDiff, Nat.reduceAdd, Nat.reduceMul, Nat.reduceSub, reduceCtorEq, Nat.reduceMod, Nat.reduceBEq, Int.reduceBEq, Int.reduceBNe, Int.reduceToNat]; exact j4 _) (by decide) rfl ?_
      simp -implicitDefEqProofs only [go_sem, ↓reduceIte, Nat.reduceEqDiff, Nat.reduceLT, Nat.reduceLeDiff, Nat.reduceAdd, Nat.reduceMul, Nat.reduceSub, reduceCtorEq, Nat.reduceMod, Nat.reduceBEq, Int.reduceBEq, Int.reduceBNe, Int.reduceToNat]
      exact ⟨S, fun _ _ h => h, hK⟩
end Go.Proofs.Ytmedhhjbknnfkaa.V
