/- Maps: a tree found, put, dropped, scanned. -/
import Derived.Test.YtdioedabjaaboaaGreatKB
set_option linter.unusedVariables false
set_option linter.unusedSimpArgs false
namespace Go.Proofs.YtdioedabjaaboaaGreat.V
open Go Go.VL

def At (key : ByteArray) (L : List Pr) (c : T) : Prop :=
 match look key L with
 | none => c = .nil
 | some v => ∃ l r d s, c = .node key v l r d s

theorem put_spec (key w : ByteArray) : ∀ n : T, Ok n → Sorted n.list → n.list.length ≤ 900000 → ∃ q, Ok q ∧ q.list = putL key w n.list ∧ ∀ S, PRet Tryz.prog 98 [enc n, .agg [.str key, .str w]] S (enc q)
 | .nil, _, _, _ => by
  refine ⟨over .nil key w .nil, ok_over trivial trivial (by decide) (by decide), rfl, fun S K hK => ?_⟩
  refine pcalls_of (C := C) (fun _ => false) (fun _ => false) Tryz.func98 rfl rfl (by simp [Tryz.f98]) ?_
  simp -implicitDefEqProofs only [go_sem, ↓reduceIte, Nat.reduceEqDiff, Nat.reduceLT, Nat.reduceLeDiff, Nat.reduceAdd, Nat.reduceMul, Nat.reduceSub, reduceCtorEq, Nat.reduceMod, Nat.reduceBEq, Int.reduceBEq, Int.reduceBNe, Int.reduceToNat, Tryz.f98, enc_nil]
  refine over_spec (l := .nil) (m := .nil) (k := key) (v := w) ?_ ?_ _ _ ?_
  ·unfold Few; decide
  ·unfold Few; decide
  simp -implicitDefEqProofs only [go_sem, ↓reduceIte, Nat.reduceEqDiff, Nat.reduceLT, Nat.reduceLeDiff, Nat.reduceAdd, Nat.reduceMul, Nat.reduceSub, reduceCtorEq, Nat.reduceMod, Nat.reduceBEq, Int.reduceBEq, Int.reduceBNe, Int.reduceToNat]
  exact ⟨S, fun _ _ h => h, hK⟩
 | .node k v l r d s, hn, hso, hs => by
  have hno := hn
  obtain ⟨hl, hr, _, _, hb1, hb2⟩ := hn
  simp only [T.list] at hso
  simp only [T.list, List.length_append, List.length_cons] at hs
  obtain ⟨sl, sr, _, _⟩ := sorted_mid hso
  rcases (Bool.eq_false_or_eq_true (lt key k)).symm with c1 | c1
  ·rcases (Bool.eq_false_or_eq_true (lt k key)).symm with c2 | c2
   ·have hk : k = key := lt_tri c2 c1
    subst hk
    refine ⟨over l k w r, ok_over hl hr hb1 hb2, by rw [over_list, T.list, put_at hso], fun S K hK => ?_⟩
    refine pcalls_of (C := C) (fun _ => false) (fun _ => false) Tryz.func98 rfl rfl (by simp [Tryz.f98]) ?_
    simp -implicitDefEqProofs only [go_sem, ↓reduceIte, Nat.reduceEqDiff, Nat.reduceLT, Nat.reduceLeDiff, Nat.reduceAdd, Nat.reduceMul, Nat.reduceSub, reduceCtorEq, Nat.reduceMod, Nat.reduceBEq, Int.reduceBEq, Int.reduceBNe, Int.reduceToNat, Tryz.f98, enc_node]
    refine vwp_draw (by decide +kernel) ?_
    simp -implicitDefEqProofs only [go_sem, ↓reduceIte, Nat.reduceEqDiff, Nat.reduceLT, Nat.reduceLeDiff, Nat.reduceAdd, Nat.reduceMul, Nat.reduceSub, reduceCtorEq, Nat.reduceMod, Nat.reduceBEq, Int.reduceBEq, Int.reduceBNe, Int.reduceToNat, c1]
    refine vwp_draw (by decide +kernel) ?_
    simp -implicitDefEqProofs only [go_sem, ↓reduceIte, Nat.reduceEqDiff, Nat.reduceLT, Nat.reduceLeDiff, Nat.reduceAdd, Nat.reduceMul, Nat.reduceSub, reduceCtorEq, Nat.reduceMod, Nat.reduceBEq, Int.reduceBEq, Int.reduceBNe, Int.reduceToNat, c1]
    refine vwp_draw (by decide +kernel) ?_
    simp -implicitDefEqProofs only [go_sem, ↓reduceIte, Nat.reduceEqDiff, Nat.reduceLT, Nat.reduceLeDiff, Nat.reduceAdd, Nat.reduceMul, Nat.reduceSub, reduceCtorEq, Nat.reduceMod, Nat.reduceBEq, Int.reduceBEq, Int.reduceBNe, Int.reduceToNat]
    refine q_call _ (by simp -implicitDefEqProofs only [go_sem, ↓reduceIte, Nat.reduceEqDiff]; exact over_spec ((ok_n hl).few (by omega)) ((ok_n hr).few (by omega)) _) (by decide) rfl ?_
    simp -implicitDefEqProofs only [go_sem, ↓reduceIte, Nat.reduceEqDiff, Nat.reduceLT, Nat.reduceLeDiff, Nat.reduceAdd, Nat.reduceMul, Nat.reduceSub, reduceCtorEq, Nat.reduceMod, Nat.reduceBEq, Int.reduceBEq, Int.reduceBNe, Int.reduceToNat]
    exact ⟨S, fun _ _ h => h, hK⟩
   ·obtain ⟨a, h1, h2, h3⟩ := put_spec key w r hr sr (by omega)
    have := put_len sr key w
    obtain ⟨q, j1, j2, _, j4⟩ := join_spec hl h1 k v (by rw [h2]; omega)
    refine ⟨q, j1, by rw [j2, h2, T.list, put_more hso c2], fun S K hK => ?_⟩
    refine pcalls_of (C := C) (fun _ => false) (fun _ => false) Tryz.func98 rfl rfl (by simp [Tryz.f98]) ?_
    simp -implicitDefEqProofs only [go_sem, ↓reduceIte, Nat.reduceEqDiff, Nat.reduceLT, Nat.reduceLeDiff, Nat.reduceAdd, Nat.reduceMul, Nat.reduceSub, reduceCtorEq, Nat.reduceMod, Nat.reduceBEq, Int.reduceBEq, Int.reduceBNe, Int.reduceToNat, Tryz.f98, enc_node]
    refine vwp_draw (by decide +kernel) ?_
    simp -implicitDefEqProofs only [go_sem, ↓reduceIte, Nat.reduceEqDiff, Nat.reduceLT, Nat.reduceLeDiff, Nat.reduceAdd, Nat.reduceMul, Nat.reduceSub, reduceCtorEq, Nat.reduceMod, Nat.reduceBEq, Int.reduceBEq, Int.reduceBNe, Int.reduceToNat, c1]
    refine vwp_draw (by decide +kernel) ?_
    simp -implicitDefEqProofs only [go_sem, ↓reduceIte, Nat.reduceEqDiff, Nat.reduceLT, Nat.reduceLeDiff, Nat.reduceAdd, Nat.reduceMul, Nat.reduceSub, reduceCtorEq, Nat.reduceMod, Nat.reduceBEq, Int.reduceBEq, Int.reduceBNe, Int.reduceToNat, c2]
    refine vwp_draw (by decide +kernel) ?_
    simp -implicitDefEqProofs only [go_sem, ↓reduceIte, Nat.reduceEqDiff, Nat.reduceLT, Nat.reduceLeDiff, Nat.reduceAdd, Nat.reduceMul, Nat.reduceSub, reduceCtorEq, Nat.reduceMod, Nat.reduceBEq, Int.reduceBEq, Int.reduceBNe, Int.reduceToNat]
    refine q_call _ (by simp -implicitDefEqProofs only [go_sem, ↓reduceIte, Nat.reduceEqDiff]; exact h3 _) (by decide) rfl ?_
    refine q_call _ (by simp -implicitDefEqProofs only [go_sem, ↓reduceIte, Nat.reduceEqDiff]; exact j4 _) (by decide) rfl ?_
    simp -implicitDefEqProofs only [go_sem, ↓reduceIte, Nat.reduceEqDiff, Nat.reduceLT, Nat.reduceLeDiff, Nat.reduceAdd, Nat.reduceMul, Nat.reduceSub, reduceCtorEq, Nat.reduceMod, Nat.reduceBEq, Int.reduceBEq, Int.reduceBNe, Int.reduceToNat]
    exact ⟨S, fun _ _ h => h, hK⟩
  ·obtain ⟨a, h1, h2, h3⟩ := put_spec key w l hl sl (by omega)
   have := put_len sl key w
   obtain ⟨q, j1, j2, _, j4⟩ := join_spec h1 hr k v (by rw [h2]; omega)
   refine ⟨q, j1, by rw [j2, h2, T.list, put_less hso c1], fun S K hK => ?_⟩
   refine pcalls_of (C := C) (fun _ => false) (fun _ => false) Tryz.func98 rfl rfl (by simp [Tryz.f98]) ?_
   simp -implicitDefEqProofs only [go_sem, ↓reduceIte, Nat.reduceEqDiff, Nat.reduceLT, Nat.reduceLeDiff, Nat.reduceAdd, Nat.reduceMul, Nat.reduceSub, reduceCtorEq, Nat.reduceMod, Nat.reduceBEq, Int.reduceBEq, Int.reduceBNe, Int.reduceToNat, Tryz.f98, enc_node]
   refine vwp_draw (by decide +kernel) ?_
   simp -implicitDefEqProofs only [go_sem, ↓reduceIte, Nat.reduceEqDiff, Nat.reduceLT, Nat.reduceLeDiff, Nat.reduceAdd, Nat.reduceMul, Nat.reduceSub, reduceCtorEq, Nat.reduceMod, Nat.reduceBEq, Int.reduceBEq, Int.reduceBNe, Int.reduceToNat, c1]
   refine vwp_draw (by decide +kernel) ?_
   simp -implicitDefEqProofs only [go_sem, ↓reduceIte, Nat.reduceEqDiff, Nat.reduceLT, Nat.reduceLeDiff, Nat.reduceAdd, Nat.reduceMul, Nat.reduceSub, reduceCtorEq, Nat.reduceMod, Nat.reduceBEq, Int.reduceBEq, Int.reduceBNe, Int.reduceToNat]
   refine q_call _ (by simp -implicitDefEqProofs only [go_sem, ↓reduceIte, Nat.reduceEqDiff]; exact h3 _) (by decide) rfl ?_
   simp -implicitDefEqProofs only [go_sem, ↓reduceIte, Nat.reduceEqDiff, Nat.reduceLT, Nat.reduceLeDiff, Nat.reduceAdd, Nat.reduceMul, Nat.reduceSub, reduceCtorEq, Nat.reduceMod, Nat.reduceBEq, Int.reduceBEq, Int.reduceBNe, Int.reduceToNat]
   refine q_call _ (by simp -implicitDefEqProofs only [go_sem, ↓reduceIte, Nat.reduceEqDiff]; exact j4 _) (by decide) rfl ?_
   simp -implicitDefEqProofs only [go_sem, ↓reduceIte, Nat.reduceEqDiff, Nat.reduceLT, Nat.reduceLeDiff, Nat.reduceAdd, Nat.reduceMul, Nat.reduceSub, reduceCtorEq, Nat.reduceMod, Nat.reduceBEq, Int.reduceBEq, Int.reduceBNe, Int.reduceToNat]
   exact ⟨S, fun _ _ h => h, hK⟩

theorem drop_less {A B : List Pr} {k v x : ByteArray} (h : Sorted (A ++ (k, v) :: B)) (hx : lt x k = true) : dropL x (A ++ (k, v) :: B) = dropL x A ++ (k, v) :: B := by
 obtain ⟨e1, e2, _⟩ := mid_less h hx
 rw [drop_two h, e1, e2, drop_two (sorted_mid h).1]
 simp
theorem drop_more {A B : List Pr} {k v x : ByteArray} (h : Sorted (A ++ (k, v) :: B)) (hx : lt k x = true) : dropL x (A ++ (k, v) :: B) = A ++ (k, v) :: dropL x B := by
 obtain ⟨e1, e2, _⟩ := mid_more h hx
 rw [drop_two h, e1, e2, drop_two (sorted_mid h).2.1]
 simp
theorem drop_at {A B : List Pr} {k v : ByteArray} (h : Sorted (A ++ (k, v) :: B)) : dropL k (A ++ (k, v) :: B) = A ++ B := by
 obtain ⟨e1, e2, _⟩ := mid_at h
 rw [drop_two h, e1, e2]

theorem drop_spec (key : ByteArray) : ∀ n : T, Ok n → Sorted n.list → n.list.length ≤ 900000 → ∃ q, Ok q ∧ q.list = dropL key n.list ∧ ∀ S, PRet Tryz.prog 99 [enc n, .str key] S (enc q)
 | .nil, _, _, _ => by
  refine ⟨.nil, trivial, rfl, fun S K hK => ?_⟩
  refine pcalls_of (C := C) (fun _ => false) (fun _ => false) Tryz.func99 rfl rfl (by simp [Tryz.f99]) ?_
  simp -implicitDefEqProofs only [go_sem, ↓reduceIte, Nat.reduceEqDiff, Nat.reduceLT, Nat.reduceLeDiff, Nat.reduceAdd, Nat.reduceMul, Nat.reduceSub, reduceCtorEq, Nat.reduceMod, Nat.reduceBEq, Int.reduceBEq, Int.reduceBNe, Int.reduceToNat, Tryz.f99, enc_nil]
  exact ⟨S, fun _ _ h => h, hK⟩
 | .node k v l r d s, hn, hso, hs => by
  have hno := hn
  obtain ⟨hl, hr, _, _, hb1, hb2⟩ := hn
  simp only [T.list] at hso
  simp only [T.list, List.length_append, List.length_cons] at hs
  obtain ⟨sl, sr, _, _⟩ := sorted_mid hso
  rcases (Bool.eq_false_or_eq_true (lt key k)).symm with c1 | c1
  ·rcases (Bool.eq_false_or_eq_true (lt k key)).symm with c2 | c2
   ·have hk : k = key := lt_tri c2 c1
    subst hk
    obtain ⟨q, j1, j2, j4⟩ := glue_spec hl hr (by omega)
    refine ⟨q, j1, by rw [j2, T.list, drop_at hso], fun S K hK => ?_⟩
    refine pcalls_of (C := C) (fun _ => false) (fun _ => false) Tryz.func99 rfl rfl (by simp [Tryz.f99]) ?_
    simp -implicitDefEqProofs only [go_sem, ↓reduceIte, Nat.reduceEqDiff, Nat.reduceLT, Nat.reduceLeDiff, Nat.reduceAdd, Nat.reduceMul, Nat.reduceSub, reduceCtorEq, Nat.reduceMod, Nat.reduceBEq, Int.reduceBEq, Int.reduceBNe, Int.reduceToNat, Tryz.f99, enc_node, c1]
    refine vwp_draw (by decide +kernel) ?_
    simp -implicitDefEqProofs only [go_sem, ↓reduceIte, Nat.reduceEqDiff, Nat.reduceLT, Nat.reduceLeDiff, Nat.reduceAdd, Nat.reduceMul, Nat.reduceSub, reduceCtorEq, Nat.reduceMod, Nat.reduceBEq, Int.reduceBEq, Int.reduceBNe, Int.reduceToNat]
    refine q_call _ (by simp -implicitDefEqProofs only [go_sem, ↓reduceIte, Nat.reduceEqDiff]; exact j4 _) (by decide) rfl ?_
    simp -implicitDefEqProofs only [go_sem, ↓reduceIte, Nat.reduceEqDiff, Nat.reduceLT, Nat.reduceLeDiff, Nat.reduceAdd, Nat.reduceMul, Nat.reduceSub, reduceCtorEq, Nat.reduceMod, Nat.reduceBEq, Int.reduceBEq, Int.reduceBNe, Int.reduceToNat]
    exact ⟨S, fun _ _ h => h, hK⟩
   ·obtain ⟨a, h1, h2, h3⟩ := drop_spec key r hr sr (by omega)
    have := drop_len r.list key
    obtain ⟨q, j1, j2, _, j4⟩ := join_spec hl h1 k v (by rw [h2]; omega)
    refine ⟨q, j1, by rw [j2, h2, T.list, drop_more hso c2], fun S K hK => ?_⟩
    refine pcalls_of (C := C) (fun _ => false) (fun _ => false) Tryz.func99 rfl rfl (by simp [Tryz.f99]) ?_
    have c3 : same key k = false := same_gt c2
    simp -implicitDefEqProofs only [go_sem, ↓reduceIte, Nat.reduceEqDiff, Nat.reduceLT, Nat.reduceLeDiff, Nat.reduceAdd, Nat.reduceMul, Nat.reduceSub, reduceCtorEq, Nat.reduceMod, Nat.reduceBEq, Int.reduceBEq, Int.reduceBNe, Int.reduceToNat, Tryz.f99, enc_node, c1, c2, c3]
    refine vwp_draw (by decide +kernel) ?_
    simp -implicitDefEqProofs only [go_sem, ↓reduceIte, Nat.reduceEqDiff, Nat.reduceLT, Nat.reduceLeDiff, Nat.reduceAdd, Nat.reduceMul, Nat.reduceSub, reduceCtorEq, Nat.reduceMod, Nat.reduceBEq, Int.reduceBEq, Int.reduceBNe, Int.reduceToNat]
    refine q_call _ (by simp -implicitDefEqProofs only [go_sem, ↓reduceIte, Nat.reduceEqDiff]; exact h3 _) (by decide) rfl ?_
    refine q_call _ (by simp -implicitDefEqProofs only [go_sem, ↓reduceIte, Nat.reduceEqDiff]; exact j4 _) (by decide) rfl ?_
    simp -implicitDefEqProofs only [go_sem, ↓reduceIte, Nat.reduceEqDiff, Nat.reduceLT, Nat.reduceLeDiff, Nat.reduceAdd, Nat.reduceMul, Nat.reduceSub, reduceCtorEq, Nat.reduceMod, Nat.reduceBEq, Int.reduceBEq, Int.reduceBNe, Int.reduceToNat]
    exact ⟨S, fun _ _ h => h, hK⟩
  ·obtain ⟨a, h1, h2, h3⟩ := drop_spec key l hl sl (by omega)
   have := drop_len l.list key
   obtain ⟨q, j1, j2, _, j4⟩ := join_spec h1 hr k v (by rw [h2]; omega)
   refine ⟨q, j1, by rw [j2, h2, T.list, drop_less hso c1], fun S K hK => ?_⟩
   refine pcalls_of (C := C) (fun _ => false) (fun _ => false) Tryz.func99 rfl rfl (by simp [Tryz.f99]) ?_
   simp -implicitDefEqProofs only [go_sem, ↓reduceIte, Nat.reduceEqDiff, Nat.reduceLT, Nat.reduceLeDiff, Nat.reduceAdd, Nat.reduceMul, Nat.reduceSub, reduceCtorEq, Nat.reduceMod, Nat.reduceBEq, Int.reduceBEq, Int.reduceBNe, Int.reduceToNat, Tryz.f99, enc_node, c1]
   refine vwp_draw (by decide +kernel) ?_
   simp -implicitDefEqProofs only [go_sem, ↓reduceIte, Nat.reduceEqDiff, Nat.reduceLT, Nat.reduceLeDiff, Nat.reduceAdd, Nat.reduceMul, Nat.reduceSub, reduceCtorEq, Nat.reduceMod, Nat.reduceBEq, Int.reduceBEq, Int.reduceBNe, Int.reduceToNat]
   refine q_call _ (by simp -implicitDefEqProofs only [go_sem, ↓reduceIte, Nat.reduceEqDiff]; exact h3 _) (by decide) rfl ?_
   simp -implicitDefEqProofs only [go_sem, ↓reduceIte, Nat.reduceEqDiff, Nat.reduceLT, Nat.reduceLeDiff, Nat.reduceAdd, Nat.reduceMul, Nat.reduceSub, reduceCtorEq, Nat.reduceMod, Nat.reduceBEq, Int.reduceBEq, Int.reduceBNe, Int.reduceToNat]
   refine q_call _ (by simp -implicitDefEqProofs only [go_sem, ↓reduceIte, Nat.reduceEqDiff]; exact j4 _) (by decide) rfl ?_
   simp -implicitDefEqProofs only [go_sem, ↓reduceIte, Nat.reduceEqDiff, Nat.reduceLT, Nat.reduceLeDiff, Nat.reduceAdd, Nat.reduceMul, Nat.reduceSub, reduceCtorEq, Nat.reduceMod, Nat.reduceBEq, Int.reduceBEq, Int.reduceBNe, Int.reduceToNat]
   exact ⟨S, fun _ _ h => h, hK⟩


/-- A tree as it is handed around: none at all, or one of a root. -/
def Tr (p : PV) (t : T) : Prop := (p = .nilp ∧ t = .nil) ∨ p = .ip [enc t] 0
theorem Tr.mk (t : T) : Tr (.ip [enc t] 0) t := .inr rfl
theorem top_spec {p : PV} {t : T} (h : Tr p t) (S : Store) : PRet Tryz.prog 86 [p] S (enc t) := by
 intro K hK
 refine pcalls_of (C := C) (fun _ => false) (fun _ => false) Tryz.func86 rfl rfl (by simp [Tryz.f86]) ?_
 rcases h with ⟨rfl, rfl⟩ | rfl
 ·simp -implicitDefEqProofs only [go_sem, ↓reduceIte, Nat.reduceEqDiff, Tryz.f86]
  exact ⟨S, fun _ _ h => h, hK⟩
 ·simp -implicitDefEqProofs only [go_sem, ↓reduceIte, Nat.reduceEqDiff, Nat.reduceLT, Nat.reduceLeDiff, Nat.reduceAdd, Nat.reduceMul, Nat.reduceSub, reduceCtorEq, Nat.reduceMod, Nat.reduceBEq, Int.reduceBEq, Int.reduceBNe, Int.reduceToNat, Tryz.f86]
  exact ⟨S, fun _ _ h => h, hK⟩
theorem len_spec {p : PV} {t : T} (h : Tr p t) (S : Store) : PRet Tryz.prog 54 [p] S (.int .i64 t.siz) := by
 intro K hK
 refine pcalls_of (C := C) (fun _ => false) (fun _ => false) Tryz.func54 rfl rfl (by simp [Tryz.f54]) ?_
 have hp : p.bare = p := by rcases h with ⟨rfl, rfl⟩ | rfl <;> rfl
 simp -implicitDefEqProofs only [go_sem, ↓reduceIte, Nat.reduceEqDiff, Nat.reduceLT, Nat.reduceLeDiff, Nat.reduceAdd, Nat.reduceMul, Nat.reduceSub, reduceCtorEq, Nat.reduceMod, Nat.reduceBEq, Int.reduceBEq, Int.reduceBNe, Int.reduceToNat, Tryz.f54, hp]
 refine top_spec h _ _ ?_
 simp -implicitDefEqProofs only [go_sem, ↓reduceIte, Nat.reduceEqDiff, Nat.reduceLT, Nat.reduceLeDiff, Nat.reduceAdd, Nat.reduceMul, Nat.reduceSub, reduceCtorEq, Nat.reduceMod, Nat.reduceBEq, Int.reduceBEq, Int.reduceBNe, Int.reduceToNat]
 refine size_spec _ _ _ ?_
 simp -implicitDefEqProofs only [go_sem, ↓reduceIte, Nat.reduceEqDiff, Nat.reduceLT, Nat.reduceLeDiff, Nat.reduceAdd, Nat.reduceMul, Nat.reduceSub, reduceCtorEq, Nat.reduceMod, Nat.reduceBEq, Int.reduceBEq, Int.reduceBNe, Int.reduceToNat]
 exact ⟨S, fun _ _ h => h, hK⟩
theorem New_spec (S : Store) : PRet Tryz.prog 51 [] S (.ip [enc .nil] 0) := by
 intro K hK
 refine pcalls_of (C := C) (fun _ => false) (fun _ => false) Tryz.func51 rfl rfl (by simp [Tryz.f51]) ?_
 simp -implicitDefEqProofs only [go_sem, ↓reduceIte, Nat.reduceEqDiff, Nat.reduceLT, Nat.reduceLeDiff, Nat.reduceAdd, Nat.reduceMul, Nat.reduceSub, reduceCtorEq, Nat.reduceMod, Nat.reduceBEq, Int.reduceBEq, Int.reduceBNe, Int.reduceToNat, Tryz.f51]
 exact ⟨S, fun _ _ h => h, hK⟩

def findF (key : ByteArray) : T → T
 | .nil => .nil
 | .node k v l r d s => if lt key k then findF key l else if lt k key then findF key r else .node k v l r d s
theorem find_at (key : ByteArray) : ∀ n : T, Sorted n.list → At key n.list (findF key n)
 | .nil, _ => rfl
 | .node k v l r d s, hso => by
  simp only [T.list] at hso
  obtain ⟨sl, sr, _, _⟩ := sorted_mid hso
  rw [findF]
  unfold At
  rw [T.list]
  rcases (Bool.eq_false_or_eq_true (lt key k)).symm with c | c
  ·rcases (Bool.eq_false_or_eq_true (lt k key)).symm with c2 | c2
   ·have hk : k = key := lt_tri c2 c
    subst hk
    rw [(mid_at hso).2.2, c]
    exact ⟨l, r, d, s, rfl⟩
   ·rw [(mid_more hso c2).2.2, c, c2]
    exact find_at key r sr
  ·rw [(mid_less hso c).2.2, c]
   exact find_at key l sl
theorem find_spec (key : ByteArray) (n : T) (S : Store) : PRet Tryz.prog 93 [enc n, .str key] S (enc (findF key n)) := by
 intro K hK
 refine pcalls_of (C := C) (fun _ => false) (fun _ => false) Tryz.func93 rfl rfl (by simp [Tryz.f93]) ?_
 simp -implicitDefEqProofs only [go_sem, ↓reduceIte, Nat.reduceEqDiff, Nat.reduceLT, Nat.reduceLeDiff, Nat.reduceAdd, Nat.reduceMul, Nat.reduceSub, reduceCtorEq, Nat.reduceMod, Nat.reduceBEq, Int.reduceBEq, Int.reduceBNe, Int.reduceToNat, Tryz.f93]
 refine vloop (fun e S' => S' = S ∧ ∃ t : T, e 0 = enc t ∧ e 1 = .str key ∧ findF key t = findF key n) (fun e _ => SizeOf.sizeOf (e 0)) ?_ ?_
 ·exact ⟨rfl, n, rfl, rfl, rfl⟩
 ·rintro J M Q' hJ hM hQ e S' ⟨rfl, t, e0, e1, ht⟩
  cases t with
  | nil =>
   simp -implicitDefEqProofs only [go_sem, ↓reduceIte, Nat.reduceEqDiff, Nat.reduceLT, Nat.reduceLeDiff, Nat.reduceAdd, Nat.reduceMul, Nat.reduceSub, reduceCtorEq, Nat.reduceMod, Nat.reduceBEq, Int.reduceBEq, Int.reduceBNe, Int.reduceToNat, e0, e1, enc_nil]
   refine hQ _ _ _ ?_
   simp -implicitDefEqProofs only [go_sem, ↓reduceIte, Nat.reduceEqDiff, Nat.reduceLT, Nat.reduceLeDiff, Nat.reduceAdd, Nat.reduceMul, Nat.reduceSub, reduceCtorEq, Nat.reduceMod, Nat.reduceBEq, Int.reduceBEq, Int.reduceBNe, Int.reduceToNat, e0, enc_nil]
   rw [← ht] at hK
   exact ⟨S', fun _ _ h => h, hK⟩
  | node k v l r d s =>
   simp -implicitDefEqProofs only [go_sem, ↓reduceIte, Nat.reduceEqDiff, Nat.reduceLT, Nat.reduceLeDiff, Nat.reduceAdd, Nat.reduceMul, Nat.reduceSub, reduceCtorEq, Nat.reduceMod, Nat.reduceBEq, Int.reduceBEq, Int.reduceBNe, Int.reduceToNat, e0, e1, enc_node]
   by_cases ck : k = key
   ·subst ck
    simp -implicitDefEqProofs only [go_sem, ↓reduceIte, Nat.reduceEqDiff, Nat.reduceLT, Nat.reduceLeDiff, Nat.reduceAdd, Nat.reduceMul, Nat.reduceSub, reduceCtorEq, Nat.reduceMod, Nat.reduceBEq, Int.reduceBEq, Int.reduceBNe, Int.reduceToNat]
    refine hQ _ _ _ ?_
    simp -implicitDefEqProofs only [go_sem, ↓reduceIte, Nat.reduceEqDiff, Nat.reduceLT, Nat.reduceLeDiff, Nat.reduceAdd, Nat.reduceMul, Nat.reduceSub, reduceCtorEq, Nat.reduceMod, Nat.reduceBEq, Int.reduceBEq, Int.reduceBNe, Int.reduceToNat, e0, enc_node]
    rw [← ht, findF, lt_irrefl] at hK
    exact ⟨S', fun _ _ h => h, hK⟩
   ·have cs := same_ne ck
    simp -implicitDefEqProofs only [go_sem, ↓reduceIte, Nat.reduceEqDiff, Nat.reduceLT, Nat.reduceLeDiff, Nat.reduceAdd, Nat.reduceMul, Nat.reduceSub, reduceCtorEq, Nat.reduceMod, Nat.reduceBEq, Int.reduceBEq, Int.reduceBNe, Int.reduceToNat, cs, e0, e1, enc_node]
    rcases (Bool.eq_false_or_eq_true (lt key k)).symm with c1 | c1
    ·have c2 : lt k key = true := by
      cases c : lt k key with
      | true => rfl
      | false => exact absurd (lt_tri c c1) ck
     simp -implicitDefEqProofs only [go_sem, ↓reduceIte, Nat.reduceEqDiff, Nat.reduceLT, Nat.reduceLeDiff, Nat.reduceAdd, Nat.reduceMul, Nat.reduceSub, reduceCtorEq, Nat.reduceMod, Nat.reduceBEq, Int.reduceBEq, Int.reduceBNe, Int.reduceToNat, c1, e0, enc_node]
     refine vnext hJ hM S' (fun _ _ h => h) ⟨rfl, r, ?_, ?_, ?_⟩ ?_
     ·simp -implicitDefEqProofs only [go_sem, ↓reduceIte, Nat.reduceEqDiff]
     ·simp -implicitDefEqProofs only [go_sem, ↓reduceIte, Nat.reduceEqDiff, e1]
     ·rw [← ht, findF, c1, c2]; rfl
     ·simp -implicitDefEqProofs only [go_sem, ↓reduceIte, Nat.reduceEqDiff, e0]; simp; omega
    ·simp -implicitDefEqProofs only [go_sem, ↓reduceIte, Nat.reduceEqDiff, Nat.reduceLT, Nat.reduceLeDiff, Nat.reduceAdd, Nat.reduceMul, Nat.reduceSub, reduceCtorEq, Nat.reduceMod, Nat.reduceBEq, Int.reduceBEq, Int.reduceBNe, Int.reduceToNat, c1, e0, enc_node]
     refine vnext hJ hM S' (fun _ _ h => h) ⟨rfl, l, ?_, ?_, ?_⟩ ?_
     ·simp -implicitDefEqProofs only [go_sem, ↓reduceIte, Nat.reduceEqDiff]
     ·simp -implicitDefEqProofs only [go_sem, ↓reduceIte, Nat.reduceEqDiff, e1]
     ·rw [← ht, findF, c1]; rfl
     ·simp -implicitDefEqProofs only [go_sem, ↓reduceIte, Nat.reduceEqDiff, e0]; simp; omega

theorem Get_spec {p : PV} {t : T} (h : Tr p t) (hs : Sorted t.list) (key : ByteArray) (S : Store) : PRet Tryz.prog 62 [p, .str key] S (.tup [.str ((look key t.list).getD ⟨#[]⟩), .bool (look key t.list).isSome]) := by
 intro K hK
 refine pcalls_of (C := C) (fun _ => false) (fun _ => false) Tryz.func62 rfl rfl (by simp [Tryz.f62]) ?_
 have hp : p.bare = p := by rcases h with ⟨rfl, rfl⟩ | rfl <;> rfl
 simp -implicitDefEqProofs only [go_sem, ↓reduceIte, Nat.reduceEqDiff, Nat.reduceLT, Nat.reduceLeDiff, Nat.reduceAdd, Nat.reduceMul, Nat.reduceSub, reduceCtorEq, Nat.reduceMod, Nat.reduceBEq, Int.reduceBEq, Int.reduceBNe, Int.reduceToNat, Tryz.f62, hp]
 refine top_spec h _ _ ?_
 simp -implicitDefEqProofs only [go_sem, ↓reduceIte, Nat.reduceEqDiff, Nat.reduceLT, Nat.reduceLeDiff, Nat.reduceAdd, Nat.reduceMul, Nat.reduceSub, reduceCtorEq, Nat.reduceMod, Nat.reduceBEq, Int.reduceBEq, Int.reduceBNe, Int.reduceToNat]
 refine find_spec _ _ _ _ ?_
 have hf := find_at key t hs
 unfold At at hf
 cases hl : look key t.list with
 | none =>
  rw [hl] at hf hK
  rw [hf]
  simp -implicitDefEqProofs only [go_sem, ↓reduceIte, Nat.reduceEqDiff, Nat.reduceLT, Nat.reduceLeDiff, Nat.reduceAdd, Nat.reduceMul, Nat.reduceSub, reduceCtorEq, Nat.reduceMod, Nat.reduceBEq, Int.reduceBEq, Int.reduceBNe, Int.reduceToNat, enc_nil]
  exact ⟨S, fun _ _ h => h, hK⟩
 | some v =>
  rw [hl] at hf hK
  obtain ⟨l, r, d, s, hf⟩ := hf
  rw [hf]
  simp -implicitDefEqProofs only [go_sem, ↓reduceIte, Nat.reduceEqDiff, Nat.reduceLT, Nat.reduceLeDiff, Nat.reduceAdd, Nat.reduceMul, Nat.reduceSub, reduceCtorEq, Nat.reduceMod, Nat.reduceBEq, Int.reduceBEq, Int.reduceBNe, Int.reduceToNat, enc_node]
  exact ⟨S, fun _ _ h => h, hK⟩

theorem Put_spec {p : PV} {t : T} (h : Tr p t) (ho : Ok t) (hs : Sorted t.list) (hn : t.list.length ≤ 900000) (key w : ByteArray) :
  ∃ q, Ok q ∧ q.list = putL key w t.list ∧ ∀ S, PRet Tryz.prog 67 [p, .str key, .str w] S (.ip [enc q] 0) := by
 have hp : p.bare = p := by rcases h with ⟨rfl, rfl⟩ | rfl <;> rfl
 have hf := find_at key t hs
 unfold At at hf
 obtain ⟨q, h1, h2, h3⟩ := put_spec key w t ho hs hn
 cases hl : look key t.list with
 | none =>
  rw [hl] at hf
  refine ⟨q, h1, h2, fun S K hK => ?_⟩
  refine pcalls_of (C := C) (fun _ => false) (fun _ => false) Tryz.func67 rfl rfl (by simp [Tryz.f67]) ?_
  simp -implicitDefEqProofs only [go_sem, ↓reduceIte, Nat.reduceEqDiff, Nat.reduceLT, Nat.reduceLeDiff, Nat.reduceAdd, Nat.reduceMul, Nat.reduceSub, reduceCtorEq, Nat.reduceMod, Nat.reduceBEq, Int.reduceBEq, Int.reduceBNe, Int.reduceToNat, Tryz.f67, hp]
  refine top_spec h _ _ ?_
  simp -implicitDefEqProofs only [go_sem, ↓reduceIte, Nat.reduceEqDiff, Nat.reduceLT, Nat.reduceLeDiff, Nat.reduceAdd, Nat.reduceMul, Nat.reduceSub, reduceCtorEq, Nat.reduceMod, Nat.reduceBEq, Int.reduceBEq, Int.reduceBNe, Int.reduceToNat]
  refine find_spec _ _ _ _ ?_
  rw [hf]
  simp -implicitDefEqProofs only [go_sem, ↓reduceIte, Nat.reduceEqDiff, Nat.reduceLT, Nat.reduceLeDiff, Nat.reduceAdd, Nat.reduceMul, Nat.reduceSub, reduceCtorEq, Nat.reduceMod, Nat.reduceBEq, Int.reduceBEq, Int.reduceBNe, Int.reduceToNat, enc_nil, hp]
  refine top_spec h _ _ ?_
  simp -implicitDefEqProofs only [go_sem, ↓reduceIte, Nat.reduceEqDiff, Nat.reduceLT, Nat.reduceLeDiff, Nat.reduceAdd, Nat.reduceMul, Nat.reduceSub, reduceCtorEq, Nat.reduceMod, Nat.reduceBEq, Int.reduceBEq, Int.reduceBNe, Int.reduceToNat]
  refine h3 _ _ ?_
  simp -implicitDefEqProofs only [go_sem, ↓reduceIte, Nat.reduceEqDiff, Nat.reduceLT, Nat.reduceLeDiff, Nat.reduceAdd, Nat.reduceMul, Nat.reduceSub, reduceCtorEq, Nat.reduceMod, Nat.reduceBEq, Int.reduceBEq, Int.reduceBNe, Int.reduceToNat]
  exact ⟨S, fun _ _ h => h, hK⟩
 | some v =>
  rw [hl] at hf
  obtain ⟨l, r, d, s, hf⟩ := hf
  by_cases cv : v = w
  ·subst cv
   refine ⟨t, ho, (put_put hs key v hl).symm, fun S K hK => ?_⟩
   refine pcalls_of (C := C) (fun _ => false) (fun _ => false) Tryz.func67 rfl rfl (by simp [Tryz.f67]) ?_
   simp -implicitDefEqProofs only [go_sem, ↓reduceIte, Nat.reduceEqDiff, Nat.reduceLT, Nat.reduceLeDiff, Nat.reduceAdd, Nat.reduceMul, Nat.reduceSub, reduceCtorEq, Nat.reduceMod, Nat.reduceBEq, Int.reduceBEq, Int.reduceBNe, Int.reduceToNat, Tryz.f67, hp]
   refine top_spec h _ _ ?_
   simp -implicitDefEqProofs only [go_sem, ↓reduceIte, Nat.reduceEqDiff, Nat.reduceLT, Nat.reduceLeDiff, Nat.reduceAdd, Nat.reduceMul, Nat.reduceSub, reduceCtorEq, Nat.reduceMod, Nat.reduceBEq, Int.reduceBEq, Int.reduceBNe, Int.reduceToNat]
   refine find_spec _ _ _ _ ?_
   rw [hf]
   simp -implicitDefEqProofs only [go_sem, ↓reduceIte, Nat.reduceEqDiff, Nat.reduceLT, Nat.reduceLeDiff, Nat.reduceAdd, Nat.reduceMul, Nat.reduceSub, reduceCtorEq, Nat.reduceMod, Nat.reduceBEq, Int.reduceBEq, Int.reduceBNe, Int.reduceToNat, enc_node, hp]
   refine top_spec h _ _ ?_
   simp -implicitDefEqProofs only [go_sem, ↓reduceIte, Nat.reduceEqDiff, Nat.reduceLT, Nat.reduceLeDiff, Nat.reduceAdd, Nat.reduceMul, Nat.reduceSub, reduceCtorEq, Nat.reduceMod, Nat.reduceBEq, Int.reduceBEq, Int.reduceBNe, Int.reduceToNat]
   exact ⟨S, fun _ _ h => h, hK⟩
  ·have cs := same_ne cv
   refine ⟨q, h1, h2, fun S K hK => ?_⟩
   refine pcalls_of (C := C) (fun _ => false) (fun _ => false) Tryz.func67 rfl rfl (by simp [Tryz.f67]) ?_
   simp -implicitDefEqProofs only [go_sem, ↓reduceIte, Nat.reduceEqDiff, Nat.reduceLT, Nat.reduceLeDiff, Nat.reduceAdd, Nat.reduceMul, Nat.reduceSub, reduceCtorEq, Nat.reduceMod, Nat.reduceBEq, Int.reduceBEq, Int.reduceBNe, Int.reduceToNat, Tryz.f67, hp]
   refine top_spec h _ _ ?_
   simp -implicitDefEqProofs only [go_sem, ↓reduceIte, Nat.reduceEqDiff, Nat.reduceLT, Nat.reduceLeDiff, Nat.reduceAdd, Nat.reduceMul, Nat.reduceSub, reduceCtorEq, Nat.reduceMod, Nat.reduceBEq, Int.reduceBEq, Int.reduceBNe, Int.reduceToNat]
   refine find_spec _ _ _ _ ?_
   rw [hf]
   simp -implicitDefEqProofs only [go_sem, ↓reduceIte, Nat.reduceEqDiff, Nat.reduceLT, Nat.reduceLeDiff, Nat.reduceAdd, Nat.reduceMul, Nat.reduceSub, reduceCtorEq, Nat.reduceMod, Nat.reduceBEq, Int.reduceBEq, Int.reduceBNe, Int.reduceToNat, enc_node, cs, hp]
   refine top_spec h _ _ ?_
   simp -implicitDefEqProofs only [go_sem, ↓reduceIte, Nat.reduceEqDiff, Nat.reduceLT, Nat.reduceLeDiff, Nat.reduceAdd, Nat.reduceMul, Nat.reduceSub, reduceCtorEq, Nat.reduceMod, Nat.reduceBEq, Int.reduceBEq, Int.reduceBNe, Int.reduceToNat]
   refine h3 _ _ ?_
   simp -implicitDefEqProofs only [go_sem, ↓reduceIte, Nat.reduceEqDiff, Nat.reduceLT, Nat.reduceLeDiff, Nat.reduceAdd, Nat.reduceMul, Nat.reduceSub, reduceCtorEq, Nat.reduceMod, Nat.reduceBEq, Int.reduceBEq, Int.reduceBNe, Int.reduceToNat]
   exact ⟨S, fun _ _ h => h, hK⟩
theorem Drop_spec {p : PV} {t : T} (h : Tr p t) (ho : Ok t) (hs : Sorted t.list) (hn : t.list.length ≤ 900000) (key : ByteArray) :
  ∃ q, Ok q ∧ q.list = dropL key t.list ∧ ∀ S, PRet Tryz.prog 68 [p, .str key] S (.ip [enc q] 0) := by
 have hp : p.bare = p := by rcases h with ⟨rfl, rfl⟩ | rfl <;> rfl
 have hf := find_at key t hs
 unfold At at hf
 obtain ⟨q, h1, h2, h3⟩ := drop_spec key t ho hs hn
 cases hl : look key t.list with
 | none =>
  rw [hl] at hf
  refine ⟨t, ho, (drop_drop _ key hl).symm, fun S K hK => ?_⟩
  refine pcalls_of (C := C) (fun _ => false) (fun _ => false) Tryz.func68 rfl rfl (by simp [Tryz.f68]) ?_
  simp -implicitDefEqProofs only [go_sem, ↓reduceIte, Nat.reduceEqDiff, Nat.reduceLT, Nat.reduceLeDiff, Nat.reduceAdd, Nat.reduceMul, Nat.reduceSub, reduceCtorEq, Nat.reduceMod, Nat.reduceBEq, Int.reduceBEq, Int.reduceBNe, Int.reduceToNat, Tryz.f68, hp]
  refine top_spec h _ _ ?_
  simp -implicitDefEqProofs only [go_sem, ↓reduceIte, Nat.reduceEqDiff, Nat.reduceLT, Nat.reduceLeDiff, Nat.reduceAdd, Nat.reduceMul, Nat.reduceSub, reduceCtorEq, Nat.reduceMod, Nat.reduceBEq, Int.reduceBEq, Int.reduceBNe, Int.reduceToNat]
  refine find_spec _ _ _ _ ?_
  rw [hf]
  simp -implicitDefEqProofs only [go_sem, ↓reduceIte, Nat.reduceEqDiff, Nat.reduceLT, Nat.reduceLeDiff, Nat.reduceAdd, Nat.reduceMul, Nat.reduceSub, reduceCtorEq, Nat.reduceMod, Nat.reduceBEq, Int.reduceBEq, Int.reduceBNe, Int.reduceToNat, enc_nil, hp]
  refine top_spec h _ _ ?_
  simp -implicitDefEqProofs only [go_sem, ↓reduceIte, Nat.reduceEqDiff, Nat.reduceLT, Nat.reduceLeDiff, Nat.reduceAdd, Nat.reduceMul, Nat.reduceSub, reduceCtorEq, Nat.reduceMod, Nat.reduceBEq, Int.reduceBEq, Int.reduceBNe, Int.reduceToNat]
  exact ⟨S, fun _ _ h => h, hK⟩
 | some v =>
  rw [hl] at hf
  obtain ⟨l, r, d, s, hf⟩ := hf
  refine ⟨q, h1, h2, fun S K hK => ?_⟩
  refine pcalls_of (C := C) (fun _ => false) (fun _ => false) Tryz.func68 rfl rfl (by simp [Tryz.f68]) ?_
  simp -implicitDefEqProofs only [go_sem, ↓reduceIte, Nat.reduceEqDiff, Nat.reduceLT, Nat.reduceLeDiff, Nat.reduceAdd, Nat.reduceMul, Nat.reduceSub, reduceCtorEq, Nat.reduceMod, Nat.reduceBEq, Int.reduceBEq, Int.reduceBNe, Int.reduceToNat, Tryz.f68, hp]
  refine top_spec h _ _ ?_
  simp -implicitDefEqProofs only [go_sem, ↓reduceIte, Nat.reduceEqDiff, Nat.reduceLT, Nat.reduceLeDiff, Nat.reduceAdd, Nat.reduceMul, Nat.reduceSub, reduceCtorEq, Nat.reduceMod, Nat.reduceBEq, Int.reduceBEq, Int.reduceBNe, Int.reduceToNat]
  refine find_spec _ _ _ _ ?_
  rw [hf]
  simp -implicitDefEqProofs only [go_sem, ↓reduceIte, Nat.reduceEqDiff, Nat.reduceLT, Nat.reduceLeDiff, Nat.reduceAdd, Nat.reduceMul, Nat.reduceSub, reduceCtorEq, Nat.reduceMod, Nat.reduceBEq, Int.reduceBEq, Int.reduceBNe, Int.reduceToNat, enc_node, hp]
  refine top_spec h _ _ ?_
  simp -implicitDefEqProofs only [go_sem, ↓reduceIte, Nat.reduceEqDiff, Nat.reduceLT, Nat.reduceLeDiff, Nat.reduceAdd, Nat.reduceMul, Nat.reduceSub, reduceCtorEq, Nat.reduceMod, Nat.reduceBEq, Int.reduceBEq, Int.reduceBNe, Int.reduceToNat]
  refine h3 _ _ ?_
  simp -implicitDefEqProofs only [go_sem, ↓reduceIte, Nat.reduceEqDiff, Nat.reduceLT, Nat.reduceLeDiff, Nat.reduceAdd, Nat.reduceMul, Nat.reduceSub, reduceCtorEq, Nat.reduceMod, Nat.reduceBEq, Int.reduceBEq, Int.reduceBNe, Int.reduceToNat]
  exact ⟨S, fun _ _ h => h, hK⟩

def encP (p : Pr) : List PV := [.str p.1, .str p.2]
def encPs (l : List Pr) : List (List PV) := l.map encP
@[go_sem] theorem len_encPs (l : List Pr) : (encPs l).length = l.length := by simp [encPs]
theorem encPs_one (a : List Pr) (k v : ByteArray) : encPs a ++ [[.str k, .str v]] = encPs (a ++ [(k, v)]) := by simp [encPs, encP]
theorem getD_encPs {l : List Pr} {k : Nat} {p : Pr} (h : l[k]? = some p) : (encPs l).getD k [] = [.str p.1, .str p.2] := by
 simp [encPs, encP, List.getD_eq_getElem?_getD, h]


def inside (to k : ByteArray) : Bool := same to ⟨#[]⟩ || lt k to
def scanStep (frm to : ByteArray) (most : Int) (out : List Pr) (p : Pr) : List Pr := if !lt p.1 frm && inside to p.1 && decide ((out.length : Int) < most) then out ++ [p] else out
def scanL (frm to : ByteArray) (most : Int) (L : List Pr) (out : List Pr) : List Pr := L.foldl (scanStep frm to most) out
section
variable {frm to : ByteArray} {most : Int}
theorem scanL_app (A : List Pr) (p : Pr) (B out : List Pr) : scanL frm to most (A ++ p :: B) out = scanL frm to most B (scanStep frm to most (scanL frm to most A out) p) := by simp [scanL]
theorem scanL_full : ∀ (L out : List Pr), most ≤ out.length → scanL frm to most L out = out
 | [], out, _ => rfl
 | p :: L, out, h => by
  have : scanStep frm to most out p = out := by
   unfold scanStep
   rw [if_neg (by simp; intros; omega)]
  show scanL frm to most L (scanStep frm to most out p) = out
  rw [this]
  exact scanL_full L out h
theorem scanL_less : ∀ (L out : List Pr), (∀ p ∈ L, lt p.1 frm = true) → scanL frm to most L out = out
 | [], out, _ => rfl
 | p :: L, out, h => by
  have : scanStep frm to most out p = out := by
   unfold scanStep
   rw [if_neg (by rw [h p List.mem_cons_self]; simp)]
  show scanL frm to most L (scanStep frm to most out p) = out
  rw [this]
  exact scanL_less L out fun q hq => h q (List.mem_cons_of_mem _ hq)
theorem scanL_out : ∀ (L out : List Pr), (∀ p ∈ L, inside to p.1 = false) → scanL frm to most L out = out
 | [], out, _ => rfl
 | p :: L, out, h => by
  have : scanStep frm to most out p = out := by
   unfold scanStep
   rw [if_neg (by rw [h p List.mem_cons_self]; simp)]
  show scanL frm to most L (scanStep frm to most out p) = out
  rw [this]
  exact scanL_out L out fun q hq => h q (List.mem_cons_of_mem _ hq)
theorem scanL_len : ∀ (L out : List Pr), (scanL frm to most L out).length ≤ out.length + L.length
 | [], out => Nat.le_refl _
 | p :: L, out => by
  have : (scanStep frm to most out p).length ≤ out.length + 1 := by
   unfold scanStep
   split <;> simp
  have h2 := scanL_len L (scanStep frm to most out p)
  have h3 : scanL frm to most (p :: L) out = scanL frm to most L (scanStep frm to most out p) := rfl
  rw [h3]
  simp only [List.length_cons]
  omega
end
theorem le_lt {a b c : ByteArray} (h1 : lt a b = true) (h2 : lt c b = false) : lt a c = true := by
 cases e : lt b c with
 | true => exact lt_trans h1 e
 | false => rw [← lt_tri e h2]; exact h1

set_option maxHeartbeats 2000000 in
theorem scan_spec (frm to : ByteArray) (most : Int) : ∀ (n : T) (out : List Pr), Sorted n.list → out.length + n.list.length ≤ 2000000 → ∀ S,
  PRet Tryz.prog 85 [enc n, .str frm, .str to, .int .i64 most, .sl .tail 2 (encPs out)] S (.sl .tail 2 (encPs (scanL frm to most n.list out)))
 | .nil, out, hso, hs, S => by
  intro K hK
  refine pcalls_of (C := C) (fun d => d == 35 || d == 36 || d == 4 || d == 64 || d == 79 || d == 80 || d == 81 || d == 10 || d == 20) (fun _ => false) Tryz.func85 rfl rfl (by simp [Tryz.f85]) ?_
  simp -implicitDefEqProofs only [go_sem, ↓reduceIte, Nat.reduceEqDiff, Nat.reduceLT, Nat.reduceLeDiff, Nat.reduceAdd, Nat.reduceMul, Nat.reduceSub, reduceCtorEq, Nat.reduceMod, Nat.reduceBEq, Int.reduceBEq, Int.reduceBNe, Int.reduceToNat, Tryz.f85, enc_nil]
  exact ⟨S, fun _ _ h => h, hK⟩
 | .node k v l r d s, out, hso, hs, S => by
  intro K hK
  refine pcalls_of (C := C) (fun d => d == 35 || d == 36 || d == 4 || d == 64 || d == 79 || d == 80 || d == 81 || d == 10 || d == 20) (fun _ => false) Tryz.func85 rfl rfl (by simp [Tryz.f85]) ?_
  simp only [T.list] at hso hK
  simp only [T.list, List.length_append, List.length_cons] at hs
  obtain ⟨sl, sr, sA, sB⟩ := sorted_mid hso
  by_cases c0 : most ≤ out.length
  ·rw [scanL_full _ _ c0] at hK
   simp -implicitDefEqProofs only [go_sem, ↓reduceIte, Nat.reduceEqDiff, Nat.reduceLT, Nat.reduceLeDiff, Nat.reduceAdd, Nat.reduceMul, Nat.reduceSub, reduceCtorEq, Nat.reduceMod, Nat.reduceBEq, Int.reduceBEq, Int.reduceBNe, Int.reduceToNat, Tryz.f85, enc_node, c0]
   exact ⟨S, fun _ _ h => h, hK⟩
  ·simp -implicitDefEqProofs only [go_sem, ↓reduceIte, Nat.reduceEqDiff, Nat.reduceLT, Nat.reduceLeDiff, Nat.reduceAdd, Nat.reduceMul, Nat.reduceSub, reduceCtorEq, Nat.reduceMod, Nat.reduceBEq, Int.reduceBEq, Int.reduceBNe, Int.reduceToNat, Tryz.f85, enc_node, c0]
   rw [scanL_app] at hK
   have ol := scanL_len (frm := frm) (to := to) (most := most) l.list out
   have ihl := scan_spec frm to most l out sl (by omega)
   generalize hO : scanL frm to most l.list out = O at hK ol ihl
   have ihr : ∀ O2 : List Pr, O2.length ≤ O.length + 1 → ∀ S, PRet Tryz.prog 85 [enc r, .str frm, .str to, .int .i64 most, .sl .tail 2 (encPs O2)] S (.sl .tail 2 (encPs (scanL frm to most r.list O2))) := fun O2 h2 => scan_spec frm to most r O2 sr (by omega)
   have hap : (O.length + 1) * 32 ≤ 140737488355328 ∧ O.length + 1 ≤ 140737488355328 := by omega
   refine mid_cond (fun e2 S2 => S2 = S ∧ e2 0 = .np [.str k, .str v, enc l, enc r, .int .i64 d, .int .i64 s] ∧ e2 1 = .str frm ∧ e2 2 = .str to ∧ e2 3 = .int .i64 most ∧ e2 4 = .sl .tail 2 (encPs O)) ?_ ?_
   ·rintro e S2 ⟨rfl, e0, e1, e2, e3, e4⟩
    have nin : inside to k = false → scanL frm to most r.list O = O := fun hi => scanL_out _ _ fun p hp => by
     unfold inside at hi ⊢
     simp only [Bool.or_eq_false_iff] at hi ⊢
     refine ⟨hi.1, ?_⟩
     cases e : lt p.1 to with
     | false => rfl
     | true => rw [lt_trans (sB p hp) e] at hi; cases hi.2
    rcases (Bool.eq_false_or_eq_true (lt k frm)).symm with b1 | b1 <;> rcases (Bool.eq_false_or_eq_true (same to ⟨#[]⟩)).symm with b2 | b2 <;> rcases (Bool.eq_false_or_eq_true (lt k to)).symm with b3 | b3 <;> by_cases b4 : (O.length : Int) < most
    ·have hst : scanStep frm to most O (k, v) = O := by simp [scanStep, inside, b1, b2, b3, b4]
     rw [hst] at hK
     rw [nin (by simp [inside, b2, b3])] at hK
     simp -implicitDefEqProofs only [go_sem, ↓reduceIte, Nat.reduceEqDiff, Nat.reduceLT, Nat.reduceLeDiff, Nat.reduceAdd, Nat.reduceMul, Nat.reduceSub, reduceCtorEq, Nat.reduceMod, Nat.reduceBEq, Int.reduceBEq, Int.reduceBNe, Int.reduceToNat, e0, e1, e2, e3, e4, enc_node, b1, b2, b3, b4, hap]
     exact ⟨S2, fun _ _ h => h, hK⟩
    ·have hst : scanStep frm to most O (k, v) = O := by simp [scanStep, inside, b1, b2, b3, b4]
     rw [hst] at hK
     rw [nin (by simp [inside, b2, b3])] at hK
     simp -implicitDefEqProofs only [go_sem, ↓reduceIte, Nat.reduceEqDiff, Nat.reduceLT, Nat.reduceLeDiff, Nat.reduceAdd, Nat.reduceMul, Nat.reduceSub, reduceCtorEq, Nat.reduceMod, Nat.reduceBEq, Int.reduceBEq, Int.reduceBNe, Int.reduceToNat, e0, e1, e2, e3, e4, enc_node, b1, b2, b3, b4, hap]
     exact ⟨S2, fun _ _ h => h, hK⟩
    ·have hst : scanStep frm to most O (k, v) = O ++ [(k, v)] := by simp [scanStep, inside, b1, b2, b3, b4]
     rw [hst] at hK
     simp -implicitDefEqProofs only [go_sem, ↓reduceIte, Nat.reduceEqDiff, Nat.reduceLT, Nat.reduceLeDiff, Nat.reduceAdd, Nat.reduceMul, Nat.reduceSub, reduceCtorEq, Nat.reduceMod, Nat.reduceBEq, Int.reduceBEq, Int.reduceBNe, Int.reduceToNat, e0, e1, e2, e3, e4, enc_node, b1, b2, b3, b4, hap]
     rw [encPs_one]
     refine ⟨by decide, ihr (O ++ [(k, v)]) (by simp) _ _ ?_⟩
     simp -implicitDefEqProofs only [go_sem, ↓reduceIte, Nat.reduceEqDiff, Nat.reduceLT, Nat.reduceLeDiff, Nat.reduceAdd, Nat.reduceMul, Nat.reduceSub, reduceCtorEq, Nat.reduceMod, Nat.reduceBEq, Int.reduceBEq, Int.reduceBNe, Int.reduceToNat]
     exact ⟨S2, fun _ _ h => h, hK⟩
    ·have hst : scanStep frm to most O (k, v) = O := by simp [scanStep, inside, b1, b2, b3, b4]
     rw [hst] at hK
     simp -implicitDefEqProofs only [go_sem, ↓reduceIte, Nat.reduceEqDiff, Nat.reduceLT, Nat.reduceLeDiff, Nat.reduceAdd, Nat.reduceMul, Nat.reduceSub, reduceCtorEq, Nat.reduceMod, Nat.reduceBEq, Int.reduceBEq, Int.reduceBNe, Int.reduceToNat, e0, e1, e2, e3, e4, enc_node, b1, b2, b3, b4, hap]
     refine ⟨by decide, ihr O (by simp) _ _ ?_⟩
     simp -implicitDefEqProofs only [go_sem, ↓reduceIte, Nat.reduceEqDiff, Nat.reduceLT, Nat.reduceLeDiff, Nat.reduceAdd, Nat.reduceMul, Nat.reduceSub, reduceCtorEq, Nat.reduceMod, Nat.reduceBEq, Int.reduceBEq, Int.reduceBNe, Int.reduceToNat]
     exact ⟨S2, fun _ _ h => h, hK⟩
    ·have hst : scanStep frm to most O (k, v) = O ++ [(k, v)] := by simp [scanStep, inside, b1, b2, b3, b4]
     rw [hst] at hK
     simp -implicitDefEqProofs only [go_sem, ↓reduceIte, Nat.reduceEqDiff, Nat.reduceLT, Nat.reduceLeDiff, Nat.reduceAdd, Nat.reduceMul, Nat.reduceSub, reduceCtorEq, Nat.reduceMod, Nat.reduceBEq, Int.reduceBEq, Int.reduceBNe, Int.reduceToNat, e0, e1, e2, e3, e4, enc_node, b1, b2, b3, b4, hap]
     rw [encPs_one]
     refine ⟨by decide, ihr (O ++ [(k, v)]) (by simp) _ _ ?_⟩
     simp -implicitDefEqProofs only [go_sem, ↓reduceIte, Nat.reduceEqDiff, Nat.reduceLT, Nat.reduceLeDiff, Nat.reduceAdd, Nat.reduceMul, Nat.reduceSub, reduceCtorEq, Nat.reduceMod, Nat.reduceBEq, Int.reduceBEq, Int.reduceBNe, Int.reduceToNat]
     exact ⟨S2, fun _ _ h => h, hK⟩
    ·have hst : scanStep frm to most O (k, v) = O := by simp [scanStep, inside, b1, b2, b3, b4]
     rw [hst] at hK
     simp -implicitDefEqProofs only [go_sem, ↓reduceIte, Nat.reduceEqDiff, Nat.reduceLT, Nat.reduceLeDiff, Nat.reduceAdd, Nat.reduceMul, Nat.reduceSub, reduceCtorEq, Nat.reduceMod, Nat.reduceBEq, Int.reduceBEq, Int.reduceBNe, Int.reduceToNat, e0, e1, e2, e3, e4, enc_node, b1, b2, b3, b4, hap]
     refine ⟨by decide, ihr O (by simp) _ _ ?_⟩
     simp -implicitDefEqProofs only [go_sem, ↓reduceIte, Nat.reduceEqDiff, Nat.reduceLT, Nat.reduceLeDiff, Nat.reduceAdd, Nat.reduceMul, Nat.reduceSub, reduceCtorEq, Nat.reduceMod, Nat.reduceBEq, Int.reduceBEq, Int.reduceBNe, Int.reduceToNat]
     exact ⟨S2, fun _ _ h => h, hK⟩
    ·have hst : scanStep frm to most O (k, v) = O ++ [(k, v)] := by simp [scanStep, inside, b1, b2, b3, b4]
     rw [hst] at hK
     simp -implicitDefEqProofs only [go_sem, ↓reduceIte, Nat.reduceEqDiff, Nat.reduceLT, Nat.reduceLeDiff, Nat.reduceAdd, Nat.reduceMul, Nat.reduceSub, reduceCtorEq, Nat.reduceMod, Nat.reduceBEq, Int.reduceBEq, Int.reduceBNe, Int.reduceToNat, e0, e1, e2, e3, e4, enc_node, b1, b2, b3, b4, hap]
     rw [encPs_one]
     refine ⟨by decide, ihr (O ++ [(k, v)]) (by simp) _ _ ?_⟩
     simp -implicitDefEqProofs only [go_sem, ↓reduceIte, Nat.reduceEqDiff, Nat.reduceLT, Nat.reduceLeDiff, Nat.reduceAdd, Nat.reduceMul, Nat.reduceSub, reduceCtorEq, Nat.reduceMod, Nat.reduceBEq, Int.reduceBEq, Int.reduceBNe, Int.reduceToNat]
     exact ⟨S2, fun _ _ h => h, hK⟩
    ·have hst : scanStep frm to most O (k, v) = O := by simp [scanStep, inside, b1, b2, b3, b4]
     rw [hst] at hK
     simp -implicitDefEqProofs only [go_sem, ↓reduceIte, Nat.reduceEqDiff, Nat.reduceLT, Nat.reduceLeDiff, Nat.reduceAdd, Nat.reduceMul, Nat.reduceSub, reduceCtorEq, Nat.reduceMod, Nat.reduceBEq, Int.reduceBEq, Int.reduceBNe, Int.reduceToNat, e0, e1, e2, e3, e4, enc_node, b1, b2, b3, b4, hap]
     refine ⟨by decide, ihr O (by simp) _ _ ?_⟩
     simp -implicitDefEqProofs only [go_sem, ↓reduceIte, Nat.reduceEqDiff, Nat.reduceLT, Nat.reduceLeDiff, Nat.reduceAdd, Nat.reduceMul, Nat.reduceSub, reduceCtorEq, Nat.reduceMod, Nat.reduceBEq, Int.reduceBEq, Int.reduceBNe, Int.reduceToNat]
     exact ⟨S2, fun _ _ h => h, hK⟩
    ·have hst : scanStep frm to most O (k, v) = O := by simp [scanStep, inside, b1, b2, b3, b4]
     rw [hst] at hK
     rw [nin (by simp [inside, b2, b3])] at hK
     simp -implicitDefEqProofs only [go_sem, ↓reduceIte, Nat.reduceEqDiff, Nat.reduceLT, Nat.reduceLeDiff, Nat.reduceAdd, Nat.reduceMul, Nat.reduceSub, reduceCtorEq, Nat.reduceMod, Nat.reduceBEq, Int.reduceBEq, Int.reduceBNe, Int.reduceToNat, e0, e1, e2, e3, e4, enc_node, b1, b2, b3, b4, hap]
     exact ⟨S2, fun _ _ h => h, hK⟩
    ·have hst : scanStep frm to most O (k, v) = O := by simp [scanStep, inside, b1, b2, b3, b4]
     rw [hst] at hK
     rw [nin (by simp [inside, b2, b3])] at hK
     simp -implicitDefEqProofs only [go_sem, ↓reduceIte, Nat.reduceEqDiff, Nat.reduceLT, Nat.reduceLeDiff, Nat.reduceAdd, Nat.reduceMul, Nat.reduceSub, reduceCtorEq, Nat.reduceMod, Nat.reduceBEq, Int.reduceBEq, Int.reduceBNe, Int.reduceToNat, e0, e1, e2, e3, e4, enc_node, b1, b2, b3, b4, hap]
     exact ⟨S2, fun _ _ h => h, hK⟩
    ·have hst : scanStep frm to most O (k, v) = O := by simp [scanStep, inside, b1, b2, b3, b4]
     rw [hst] at hK
     simp -implicitDefEqProofs only [go_sem, ↓reduceIte, Nat.reduceEqDiff, Nat.reduceLT, Nat.reduceLeDiff, Nat.reduceAdd, Nat.reduceMul, Nat.reduceSub, reduceCtorEq, Nat.reduceMod, Nat.reduceBEq, Int.reduceBEq, Int.reduceBNe, Int.reduceToNat, e0, e1, e2, e3, e4, enc_node, b1, b2, b3, b4, hap]
     refine ⟨by decide, ihr O (by simp) _ _ ?_⟩
     simp -implicitDefEqProofs only [go_sem, ↓reduceIte, Nat.reduceEqDiff, Nat.reduceLT, Nat.reduceLeDiff, Nat.reduceAdd, Nat.reduceMul, Nat.reduceSub, reduceCtorEq, Nat.reduceMod, Nat.reduceBEq, Int.reduceBEq, Int.reduceBNe, Int.reduceToNat]
     exact ⟨S2, fun _ _ h => h, hK⟩
    ·have hst : scanStep frm to most O (k, v) = O := by simp [scanStep, inside, b1, b2, b3, b4]
     rw [hst] at hK
     simp -implicitDefEqProofs only [go_sem, ↓reduceIte, Nat.reduceEqDiff, Nat.reduceLT, Nat.reduceLeDiff, Nat.reduceAdd, Nat.reduceMul, Nat.reduceSub, reduceCtorEq, Nat.reduceMod, Nat.reduceBEq, Int.reduceBEq, Int.reduceBNe, Int.reduceToNat, e0, e1, e2, e3, e4, enc_node, b1, b2, b3, b4, hap]
     refine ⟨by decide, ihr O (by simp) _ _ ?_⟩
     simp -implicitDefEqProofs only [go_sem, ↓reduceIte, Nat.reduceEqDiff, Nat.reduceLT, Nat.reduceLeDiff, Nat.reduceAdd, Nat.reduceMul, Nat.reduceSub, reduceCtorEq, Nat.reduceMod, Nat.reduceBEq, Int.reduceBEq, Int.reduceBNe, Int.reduceToNat]
     exact ⟨S2, fun _ _ h => h, hK⟩
    ·have hst : scanStep frm to most O (k, v) = O := by simp [scanStep, inside, b1, b2, b3, b4]
     rw [hst] at hK
     simp -implicitDefEqProofs only [go_sem, ↓reduceIte, Nat.reduceEqDiff, Nat.reduceLT, Nat.reduceLeDiff, Nat.reduceAdd, Nat.reduceMul, Nat.reduceSub, reduceCtorEq, Nat.reduceMod, Nat.reduceBEq, Int.reduceBEq, Int.reduceBNe, Int.reduceToNat, e0, e1, e2, e3, e4, enc_node, b1, b2, b3, b4, hap]
     refine ⟨by decide, ihr O (by simp) _ _ ?_⟩
     simp -implicitDefEqProofs only [go_sem, ↓reduceIte, Nat.reduceEqDiff, Nat.reduceLT, Nat.reduceLeDiff, Nat.reduceAdd, Nat.reduceMul, Nat.reduceSub, reduceCtorEq, Nat.reduceMod, Nat.reduceBEq, Int.reduceBEq, Int.reduceBNe, Int.reduceToNat]
     exact ⟨S2, fun _ _ h => h, hK⟩
    ·have hst : scanStep frm to most O (k, v) = O := by simp [scanStep, inside, b1, b2, b3, b4]
     rw [hst] at hK
     simp -implicitDefEqProofs only [go_sem, ↓reduceIte, Nat.reduceEqDiff, Nat.reduceLT, Nat.reduceLeDiff, Nat.reduceAdd, Nat.reduceMul, Nat.reduceSub, reduceCtorEq, Nat.reduceMod, Nat.reduceBEq, Int.reduceBEq, Int.reduceBNe, Int.reduceToNat, e0, e1, e2, e3, e4, enc_node, b1, b2, b3, b4, hap]
     refine ⟨by decide, ihr O (by simp) _ _ ?_⟩
     simp -implicitDefEqProofs only [go_sem, ↓reduceIte, Nat.reduceEqDiff, Nat.reduceLT, Nat.reduceLeDiff, Nat.reduceAdd, Nat.reduceMul, Nat.reduceSub, reduceCtorEq, Nat.reduceMod, Nat.reduceBEq, Int.reduceBEq, Int.reduceBNe, Int.reduceToNat]
     exact ⟨S2, fun _ _ h => h, hK⟩
    ·have hst : scanStep frm to most O (k, v) = O := by simp [scanStep, inside, b1, b2, b3, b4]
     rw [hst] at hK
     simp -implicitDefEqProofs only [go_sem, ↓reduceIte, Nat.reduceEqDiff, Nat.reduceLT, Nat.reduceLeDiff, Nat.reduceAdd, Nat.reduceMul, Nat.reduceSub, reduceCtorEq, Nat.reduceMod, Nat.reduceBEq, Int.reduceBEq, Int.reduceBNe, Int.reduceToNat, e0, e1, e2, e3, e4, enc_node, b1, b2, b3, b4, hap]
     refine ⟨by decide, ihr O (by simp) _ _ ?_⟩
     simp -implicitDefEqProofs only [go_sem, ↓reduceIte, Nat.reduceEqDiff, Nat.reduceLT, Nat.reduceLeDiff, Nat.reduceAdd, Nat.reduceMul, Nat.reduceSub, reduceCtorEq, Nat.reduceMod, Nat.reduceBEq, Int.reduceBEq, Int.reduceBNe, Int.reduceToNat]
     exact ⟨S2, fun _ _ h => h, hK⟩
    ·have hst : scanStep frm to most O (k, v) = O := by simp [scanStep, inside, b1, b2, b3, b4]
     rw [hst] at hK
     simp -implicitDefEqProofs only [go_sem, ↓reduceIte, Nat.reduceEqDiff, Nat.reduceLT, Nat.reduceLeDiff, Nat.reduceAdd, Nat.reduceMul, Nat.reduceSub, reduceCtorEq, Nat.reduceMod, Nat.reduceBEq, Int.reduceBEq, Int.reduceBNe, Int.reduceToNat, e0, e1, e2, e3, e4, enc_node, b1, b2, b3, b4, hap]
     refine ⟨by decide, ihr O (by simp) _ _ ?_⟩
     simp -implicitDefEqProofs only [go_sem, ↓reduceIte, Nat.reduceEqDiff, Nat.reduceLT, Nat.reduceLeDiff, Nat.reduceAdd, Nat.reduceMul, Nat.reduceSub, reduceCtorEq, Nat.reduceMod, Nat.reduceBEq, Int.reduceBEq, Int.reduceBNe, Int.reduceToNat]
     exact ⟨S2, fun _ _ h => h, hK⟩
   ·intro W' hW'
    rcases (Bool.eq_false_or_eq_true (lt frm k)).symm with c1 | c1
    ·have : O = out := by
      rw [← hO]
      exact scanL_less _ _ fun p hp => le_lt (sA p hp) c1
     subst this
     simp -implicitDefEqProofs only [go_sem, ↓reduceIte, Nat.reduceEqDiff, Nat.reduceLT, Nat.reduceLeDiff, Nat.reduceAdd, Nat.reduceMul, Nat.reduceSub, reduceCtorEq, Nat.reduceMod, Nat.reduceBEq, Int.reduceBEq, Int.reduceBNe, Int.reduceToNat, c1]
     exact hW' _ _ ⟨rfl, by simp -implicitDefEqProofs only [go_sem, ↓reduceIte, Nat.reduceEqDiff, Nat.reduceLT, Nat.reduceLeDiff, Nat.reduceAdd, Nat.reduceMul, Nat.reduceSub, reduceCtorEq, Nat.reduceMod, Nat.reduceBEq, Int.reduceBEq, Int.reduceBNe, Int.reduceToNat], by simp -implicitDefEqProofs only [go_sem, ↓reduceIte, Nat.reduceEqDiff, Nat.reduceLT, Nat.reduceLeDiff, Nat.reduceAdd, Nat.reduceMul, Nat.reduceSub, reduceCtorEq, Nat.reduceMod, Nat.reduceBEq, Int.reduceBEq, Int.reduceBNe, Int.reduceToNat], by simp -implicitDefEqProofs only [go_sem, ↓reduceIte, Nat.reduceEqDiff, Nat.reduceLT, Nat.reduceLeDiff, Nat.reduceAdd, Nat.reduceMul, Nat.reduceSub, reduceCtorEq, Nat.reduceMod, Nat.reduceBEq, Int.reduceBEq, Int.reduceBNe, Int.reduceToNat], by simp -implicitDefEqProofs only [go_sem, ↓reduceIte, Nat.reduceEqDiff, Nat.reduceLT, Nat.reduceLeDiff, Nat.reduceAdd, Nat.reduceMul, Nat.reduceSub, reduceCtorEq, Nat.reduceMod, Nat.reduceBEq, Int.reduceBEq, Int.reduceBNe, Int.reduceToNat], by simp -implicitDefEqProofs only [go_sem, ↓reduceIte, Nat.reduceEqDiff, Nat.reduceLT, Nat.reduceLeDiff, Nat.reduceAdd, Nat.reduceMul, Nat.reduceSub, reduceCtorEq, Nat.reduceMod, Nat.reduceBEq, Int.reduceBEq, Int.reduceBNe, Int.reduceToNat]⟩
    ·simp -implicitDefEqProofs only [go_sem, ↓reduceIte, Nat.reduceEqDiff, Nat.reduceLT, Nat.reduceLeDiff, Nat.reduceAdd, Nat.reduceMul, Nat.reduceSub, reduceCtorEq, Nat.reduceMod, Nat.reduceBEq, Int.reduceBEq, Int.reduceBNe, Int.reduceToNat, c1]
     refine ⟨by decide, ihl _ _ ?_⟩
     simp -implicitDefEqProofs only [go_sem, ↓reduceIte, Nat.reduceEqDiff, Nat.reduceLT, Nat.reduceLeDiff, Nat.reduceAdd, Nat.reduceMul, Nat.reduceSub, reduceCtorEq, Nat.reduceMod, Nat.reduceBEq, Int.reduceBEq, Int.reduceBNe, Int.reduceToNat]
     exact hW' _ _ ⟨rfl, by simp -implicitDefEqProofs only [go_sem, ↓reduceIte, Nat.reduceEqDiff], by simp -implicitDefEqProofs only [go_sem, ↓reduceIte, Nat.reduceEqDiff], by simp -implicitDefEqProofs only [go_sem, ↓reduceIte, Nat.reduceEqDiff], by simp -implicitDefEqProofs only [go_sem, ↓reduceIte, Nat.reduceEqDiff], by simp -implicitDefEqProofs only [go_sem, ↓reduceIte, Nat.reduceEqDiff]⟩

theorem Scan_spec {p : PV} {n : T} (h : Tr p n) (hs : Sorted n.list) (hn : n.list.length ≤ 1000000) (frm to : ByteArray) (most : Int) (S : Store) : PRet Tryz.prog 53 [p, .str frm, .str to, .int .i64 most] S (.sl .tail 2 (encPs (scanL frm to most n.list []))) := by
 intro K hK
 refine pcalls_of (C := C) (fun d => d == 8) (fun _ => false) Tryz.func53 rfl rfl (by simp [Tryz.f53]) ?_
 have hp : p.bare = p := by rcases h with ⟨rfl, rfl⟩ | rfl <;> rfl
 simp -implicitDefEqProofs only [go_sem, ↓reduceIte, Nat.reduceEqDiff, Nat.reduceLT, Nat.reduceLeDiff, Nat.reduceAdd, Nat.reduceMul, Nat.reduceSub, reduceCtorEq, Nat.reduceMod, Nat.reduceBEq, Int.reduceBEq, Int.reduceBNe, Int.reduceToNat, Tryz.f53, hp]
 refine top_spec h _ _ ?_
 simp -implicitDefEqProofs only [go_sem, ↓reduceIte, Nat.reduceEqDiff, Nat.reduceLT, Nat.reduceLeDiff, Nat.reduceAdd, Nat.reduceMul, Nat.reduceSub, reduceCtorEq, Nat.reduceMod, Nat.reduceBEq, Int.reduceBEq, Int.reduceBNe, Int.reduceToNat]
 refine scan_spec frm to most n [] hs (by simp; omega) _ _ ?_
 simp -implicitDefEqProofs only [go_sem, ↓reduceIte, Nat.reduceEqDiff, Nat.reduceLT, Nat.reduceLeDiff, Nat.reduceAdd, Nat.reduceMul, Nat.reduceSub, reduceCtorEq, Nat.reduceMod, Nat.reduceBEq, Int.reduceBEq, Int.reduceBNe, Int.reduceToNat]
 exact ⟨S, fun _ _ h => h, hK⟩
end Go.Proofs.YtdioedabjaaboaaGreat.V
