/- Trees: a pair by its place; who is next to a key. -/
import Derived.Test.YtmedhhjbknnfkaaTH
set_option linter.unusedVariables false
set_option linter.unusedSimpArgs false
namespace Go.Proofs.Ytmedhhjbknnfkaa.V
open Go Go.VL

def atL (L : List Pr) (i : Int) : Option Pr := if 0 ≤ i then L[i.toNat]? else none
def encOp : Option Pr → PV
  | none => .tup [.agg [.str ⟨#[]⟩, .str ⟨#[]⟩], .bool false]
  | some p => .tup [.agg [.str p.1, .str p.2], .bool true]
theorem atL_out {L : List Pr} {i : Int} (h : i < 0 ∨ (L.length : Int) ≤ i) : atL L i = none := by
  unfold atL
  split
  · rw [List.getElem?_eq_none (by omega)]
  · rfl
theorem At_spec {p : PV} {n : T} (h : Tr p n) (ho : Ok n) (hn : n.list.length ≤ 1000000) (i : Int) (S : Store) : PRet Try.prog 34 [p, .int .i64 i] S (encOp (atL n.list i)) := by
  intro K hK
  refine pcalls_of (C := C) (fun _ => false) (fun _ => false) Try.func34 rfl rfl (by simp [Try.f34]) ?_
  have hp : p.bare = p := by rcases h with ⟨rfl, rfl⟩ | rfl <;> rfl
  obtain ⟨z1, z2, z3⟩ := ok_size n ho
  simp -implicitDefEqProofs only [go_sem, ↓reduceIte, Nat.reduceEqDiff, Nat.reduceLT, Nat.reduceLeDiff, Nat.reduceAdd, Nat.reduceMul, Nat.reduceSub, reduceCtorEq, Nat.reduceMod, Nat.reduceBEq, Int.reduceBEq, Int.reduceBNe, Int.reduceToNat, Try.f34, hp]
  refine top_spec h _ _ ?_
  by_cases c1 : i < 0
  · simp -implicitDefEqProofs only [go_sem, ↓reduceIte, Nat.reduceEqDiff, Nat.reduceLT, Nat.reduceLeDiff, Nat.reduceAdd, Nat.reduceMul, Nat.reduceSub, reduceCtorEq, Nat.reduceMod, Nat.reduceBEq, Int.reduceBEq, Int.reduceBNe, Int.reduceToNat, c1]
    rw [atL_out (.inl c1)] at hK
    exact ⟨S, fun _ _ h => h, hK⟩
  · simp -implicitDefEqProofs only [go_sem, ↓reduceIte, Nat.reduceEqDiff, Nat.reduceLT, Nat.reduceLeDiff, Nat.reduceAdd, Nat.reduceMul, Nat.reduceSub, reduceCtorEq, Nat.reduceMod, Nat.reduceBEq, Int.reduceBEq, Int.reduceBNe, Int.reduceToNat, c1]
    refine size_spec n _ _ ?_
    by_cases c2 : n.siz ≤ i
    · simp -implicitDefEqProofs only [go_sem, ↓reduceIte, Nat.reduceEqDiff, Nat.reduceLT, Nat.reduceLeDiff, Nat.reduceAdd, Nat.reduceMul, Nat.reduceSub, reduceCtorEq, Nat.reduceMod, Nat.reduceBEq, Int.reduceBEq, Int.reduceBNe, Int.reduceToNat, c2]
      rw [atL_out (.inr (by omega))] at hK
      exact ⟨S, fun _ _ h => h, hK⟩
    · simp -implicitDefEqProofs only [go_sem, ↓reduceIte, Nat.reduceEqDiff, Nat.reduceLT, Nat.reduceLeDiff, Nat.reduceAdd, Nat.reduceMul, Nat.reduceSub, reduceCtorEq, Nat.reduceMod, Nat.reduceBEq, Int.reduceBEq, Int.reduceBNe, Int.reduceToNat, c2]
      obtain ⟨q, hq⟩ : ∃ q, n.list[i.toNat]? = some q := ⟨_, List.getElem?_eq_getElem (by omega)⟩
      rw [atL, if_pos (by omega), hq] at hK
      refine vloop (fun e S' => S' = S ∧ ∃ (j : Int) (t : T), Ok t ∧ t.list.length ≤ n.list.length ∧ 0 ≤ j ∧ j ≤ i ∧ t.list[j.toNat]? = some q ∧ e 1 = .int .i64 j ∧ e 4 = .fresh 2 ∧ e 6 = enc t) (fun e _ => SizeOf.sizeOf (e 6)) ?_ ?_
      · exact ⟨rfl, i, n, ho, Nat.le_refl _, by omega, Int.le_refl _, hq, rfl, rfl, rfl⟩
      · rintro J M Q' hJ hM hQ e S' ⟨rfl, j, t, ot, lt0, j0, j1, hj, e1, e4, e6⟩
        cases t with
        | nil => simp [T.list] at hj
        | node a b l r d s =>
          obtain ⟨ol, orr, _, _, _, _⟩ := ot
          simp only [T.list] at hj lt0
          obtain ⟨y1, y2, y3⟩ := ok_size l ol
          simp only [List.length_append, List.length_cons] at lt0
          simp -implicitDefEqProofs only [go_sem, ↓reduceIte, Nat.reduceEqDiff, Nat.reduceLT, Nat.reduceLeDiff, Nat.reduceAdd, Nat.reduceMul, Nat.reduceSub, reduceCtorEq, Nat.reduceMod, Nat.reduceBEq, Int.reduceBEq, Int.reduceBNe, Int.reduceToNat, e1, e6, enc_node]
          refine size_spec l _ _ ?_
          by_cases c3 : j = l.siz
          · have c3' : (j != l.siz) = false := by simp [c3]
            simp -implicitDefEqProofs only [go_sem, ↓reduceIte, Nat.reduceEqDiff, Nat.reduceLT, Nat.reduceLeDiff, Nat.reduceAdd, Nat.reduceMul, Nat.reduceSub, reduceCtorEq, Nat.reduceMod, Nat.reduceBEq, Int.reduceBEq, Int.reduceBNe, Int.reduceToNat, c3']
            refine hQ _ _ _ ?_
            simp -implicitDefEqProofs only [go_sem, ↓reduceIte, Nat.reduceEqDiff, Nat.reduceLT, Nat.reduceLeDiff, Nat.reduceAdd, Nat.reduceMul, Nat.reduceSub, reduceCtorEq, Nat.reduceMod, Nat.reduceBEq, Int.reduceBEq, Int.reduceBNe, Int.reduceToNat, e4, e6, enc_node]
            rw [show j.toNat = l.list.length by omega, List.getElem?_append_right (Nat.le_refl _)] at hj
            simp at hj
            subst hj
            exact ⟨S', fun _ _ h => h, hK⟩
          · have c3' : (j != l.siz) = true := by simp [c3]
            simp -implicitDefEqProofs only [go_sem, ↓reduceIte, Nat.reduceEqDiff, Nat.reduceLT, Nat.reduceLeDiff, Nat.reduceAdd, Nat.reduceMul, Nat.reduceSub, reduceCtorEq, Nat.reduceMod, Nat.reduceBEq, Int.reduceBEq, Int.reduceBNe, Int.reduceToNat, c3', e1, e6, enc_node]
            refine size_spec l _ _ ?_
            by_cases c4 : j < l.siz
            · simp -implicitDefEqProofs only [go_sem, ↓reduceIte, Nat.reduceEqDiff, Nat.reduceLT, Nat.reduceLeDiff, Nat.reduceAdd, Nat.reduceMul, Nat.reduceSub, reduceCtorEq, Nat.reduceMod, Nat.reduceBEq, Int.reduceBEq, Int.reduceBNe, Int.reduceToNat, c4, e6, enc_node]
              rw [List.getElem?_append_left (by omega)] at hj
              refine vnext hJ hM S' (fun _ _ h => h) ⟨rfl, j, l, ol, by omega, j0, j1, hj, ?_, ?_, ?_⟩ ?_
              · simp -implicitDefEqProofs only [go_sem, ↓reduceIte, Nat.reduceEqDiff, Nat.reduceLT, Nat.reduceLeDiff, Nat.reduceAdd, Nat.reduceMul, Nat.reduceSub, reduceCtorEq, Nat.reduceMod, Nat.reduceBEq, Int.reduceBEq, Int.reduceBNe, Int.reduceToNat, e1]
              · simp -implicitDefEqProofs only [go_sem, ↓reduceIte, Nat.reduceEqDiff, Nat.reduceLT, Nat.reduceLeDiff, Nat.reduceAdd, Nat.reduceMul, Nat.reduceSub, reduceCtorEq, Nat.reduceMod, Nat.reduceBEq, Int.reduceBEq, Int.reduceBNe, Int.reduceToNat, e4]
              · simp -implicitDefEqProofs only [go_sem, ↓reduceIte, Nat.reduceEqDiff, Nat.reduceLT, Nat.reduceLeDiff, Nat.reduceAdd, Nat.reduceMul, Nat.reduceSub, reduceCtorEq, Nat.reduceMod, Nat.reduceBEq, Int.reduceBEq, Int.reduceBNe, Int.reduceToNat]
              · simp -implicitDefEqProofs only [go_sem, ↓reduceIte, Nat.reduceEqDiff, Nat.reduceLT, Nat.reduceLeDiff, Nat.reduceAdd, Nat.reduceMul, Nat.reduceSub, reduceCtorEq, Nat.reduceMod, Nat.reduceBEq, Int.reduceBEq, Int.reduceBNe, Int.reduceToNat, e6]; simp; omega
            · rw [List.getElem?_append_right (by omega)] at hj
              obtain ⟨m, hm⟩ : ∃ m : Nat, j.toNat - l.list.length = m + 1 := ⟨j.toNat - l.list.length - 1, by omega⟩
              rw [hm, List.getElem?_cons_succ] at hj
              have hw1 : IntKind.i64.wrap (j - l.siz) = j - l.siz := wrap64 (by omega) (by omega)
              have hw2 : IntKind.i64.wrap (j - l.siz - 1) = (m : Int) := by rw [wrap64 (by omega) (by omega)]; omega
              simp -implicitDefEqProofs only [go_sem, ↓reduceIte, Nat.reduceEqDiff, Nat.reduceLT, Nat.reduceLeDiff, Nat.reduceAdd, Nat.reduceMul, Nat.reduceSub, reduceCtorEq, Nat.reduceMod, Nat.reduceBEq, Int.reduceBEq, Int.reduceBNe, Int.reduceToNat, c4]
              refine vwp_draw (by decide +kernel) ?_
              simp -implicitDefEqProofs only [go_sem, ↓reduceIte, Nat.reduceEqDiff, Nat.reduceLT, Nat.reduceLeDiff, Nat.reduceAdd, Nat.reduceMul, Nat.reduceSub, reduceCtorEq, Nat.reduceMod, Nat.reduceBEq, Int.reduceBEq, Int.reduceBNe, Int.reduceToNat, e1, e6, enc_node]
              refine q_call _ (by simp -implicitDefEqProofs only [go_sem, ↓reduceIte, Nat.reduceEqDiff, Nat.reduceLT, Nat.reduceLeDiff, Nat.reduceAdd, Nat.reduceMul, Nat.reduceSub, reduceCtorEq, Nat.reduceMod, Nat.reduceBEq, Int.reduceBEq, Int.reduceBNe, Int.reduceToNat]; exact size_spec _ _) (by decide) rfl ?_
              simp -implicitDefEqProofs only [go_sem, ↓reduceIte, Nat.reduceEqDiff, Nat.reduceLT, Nat.reduceLeDiff, Nat.reduceAdd, Nat.reduceMul, Nat.reduceSub, reduceCtorEq, Nat.reduceMod, Nat.reduceBEq, Int.reduceBEq, Int.reduceBNe, Int.reduceToNat, e1, e6, enc_node, hw1, hw2]
              refine vnext hJ hM S' (fun _ _ h => h) ⟨rfl, (m : Int), r, orr, by omega, by omega, by omega, by simpa using hj, ?_, ?_, ?_⟩ ?_
              · simp -implicitDefEqProofs only [go_sem, ↓reduceIte, Nat.reduceEqDiff, Nat.reduceLT, Nat.reduceLeDiff, Nat.reduceAdd, Nat.reduceMul, Nat.reduceSub, reduceCtorEq, Nat.reduceMod, Nat.reduceBEq, Int.reduceBEq, Int.reduceBNe, Int.reduceToNat]
              · simp -implicitDefEqProofs only [go_sem, ↓reduceIte, Nat.reduceEqDiff, Nat.reduceLT, Nat.reduceLeDiff, Nat.reduceAdd, Nat.reduceMul, Nat.reduceSub, reduceCtorEq, Nat.reduceMod, Nat.reduceBEq, Int.reduceBEq, Int.reduceBNe, Int.reduceToNat, e4]
              · simp -implicitDefEqProofs only [go_sem, ↓reduceIte, Nat.reduceEqDiff, Nat.reduceLT, Nat.reduceLeDiff, Nat.reduceAdd, Nat.reduceMul, Nat.reduceSub, reduceCtorEq, Nat.reduceMod, Nat.reduceBEq, Int.reduceBEq, Int.reduceBNe, Int.reduceToNat]
              · simp -implicitDefEqProofs only [go_sem, ↓reduceIte, Nat.reduceEqDiff, Nat.reduceLT, Nat.reduceLeDiff, Nat.reduceAdd, Nat.reduceMul, Nat.reduceSub, reduceCtorEq, Nat.reduceMod, Nat.reduceBEq, Int.reduceBEq, Int.reduceBNe, Int.reduceToNat, e6]; simp; omega

def floorR (L : List Pr) (key : ByteArray) : Option Pr :=
  match look key L with
  | some v => some (key, v)
  | none => atL L ((below key L).length - 1)
theorem Floor_spec {p : PV} {n : T} (h : Tr p n) (ho : Ok n) (hs : Sorted n.list) (hn : n.list.length ≤ 1000000) (key : ByteArray) (S : Store) : PRet Try.prog 36 [p, .str key] S (encOp (floorR n.list key)) := by
  intro K hK
  refine pcalls_of (C := C) (fun _ => false) (fun _ => false) Try.func36 rfl rfl (by simp [Try.f36]) ?_
  have hp : p.bare = p := by rcases h with ⟨rfl, rfl⟩ | rfl <;> rfl
  have hf := find_at key n hs
  unfold At at hf
  unfold floorR at hK
  have hbl := below_len key n.list
  simp -implicitDefEqProofs only [go_sem, ↓reduceIte, Nat.reduceEqDiff, Nat.reduceLT, Nat.reduceLeDiff, Nat.reduceAdd, Nat.reduceMul, Nat.reduceSub, reduceCtorEq, Nat.reduceMod, Nat.reduceBEq, Int.reduceBEq, Int.reduceBNe, Int.reduceToNat, Try.f36, hp]
  refine top_spec h _ _ ?_
  simp -implicitDefEqProofs only [go_sem, ↓reduceIte, Nat.reduceEqDiff, Nat.reduceLT, Nat.reduceLeDiff, Nat.reduceAdd, Nat.reduceMul, Nat.reduceSub, reduceCtorEq, Nat.reduceMod, Nat.reduceBEq, Int.reduceBEq, Int.reduceBNe, Int.reduceToNat]
  refine find_spec _ _ _ _ ?_
  cases hl : look key n.list with
  | none =>
    rw [hl] at hf hK
    rw [hf]
    have hw : IntKind.i64.wrap ((((below key n.list).length : Nat) : Int) - 1) = ((below key n.list).length : Int) - 1 := wrap64 (by omega) (by omega)
    simp -implicitDefEqProofs only [go_sem, ↓reduceIte, Nat.reduceEqDiff, Nat.reduceLT, Nat.reduceLeDiff, Nat.reduceAdd, Nat.reduceMul, Nat.reduceSub, reduceCtorEq, Nat.reduceMod, Nat.reduceBEq, Int.reduceBEq, Int.reduceBNe, Int.reduceToNat, enc_nil, hp]
    refine Rank_spec h ho hs hn key _ _ ?_
    simp -implicitDefEqProofs only [go_sem, ↓reduceIte, Nat.reduceEqDiff, Nat.reduceLT, Nat.reduceLeDiff, Nat.reduceAdd, Nat.reduceMul, Nat.reduceSub, reduceCtorEq, Nat.reduceMod, Nat.reduceBEq, Int.reduceBEq, Int.reduceBNe, Int.reduceToNat, hw, hp]
    refine At_spec h ho hn _ _ _ ?_
    dsimp only at hK
    generalize atL n.list ((below key n.list).length - 1) = q at hK ⊢
    cases q <;> (simp -implicitDefEqProofs only [go_sem, ↓reduceIte, Nat.reduceEqDiff, Nat.reduceLT, Nat.reduceLeDiff, Nat.reduceAdd, Nat.reduceMul, Nat.reduceSub, reduceCtorEq, Nat.reduceMod, Nat.reduceBEq, Int.reduceBEq, Int.reduceBNe, Int.reduceToNat, encOp]; exact ⟨S, fun _ _ h => h, hK⟩)
  | some v =>
    rw [hl] at hf hK
    obtain ⟨l, r, d, s, hf⟩ := hf
    rw [hf]
    simp -implicitDefEqProofs only [go_sem, ↓reduceIte, Nat.reduceEqDiff, Nat.reduceLT, Nat.reduceLeDiff, Nat.reduceAdd, Nat.reduceMul, Nat.reduceSub, reduceCtorEq, Nat.reduceMod, Nat.reduceBEq, Int.reduceBEq, Int.reduceBNe, Int.reduceToNat, enc_node]
    exact ⟨S, fun _ _ h => h, hK⟩
theorem Ceil_spec {p : PV} {n : T} (h : Tr p n) (ho : Ok n) (hs : Sorted n.list) (hn : n.list.length ≤ 1000000) (key : ByteArray) (S : Store) : PRet Try.prog 38 [p, .str key] S (encOp (atL n.list (below key n.list).length)) := by
  intro K hK
  refine pcalls_of (C := C) (fun _ => false) (fun _ => false) Try.func38 rfl rfl (by simp [Try.f38]) ?_
  have hp : p.bare = p := by rcases h with ⟨rfl, rfl⟩ | rfl <;> rfl
  simp -implicitDefEqProofs only [go_sem, ↓reduceIte, Nat.reduceEqDiff, Nat.reduceLT, Nat.reduceLeDiff, Nat.reduceAdd, Nat.reduceMul, Nat.reduceSub, reduceCtorEq, Nat.reduceMod, Nat.reduceBEq, Int.reduceBEq, Int.reduceBNe, Int.reduceToNat, Try.f38, hp]
  refine Rank_spec h ho hs hn key _ _ ?_
  simp -implicitDefEqProofs only [go_sem, ↓reduceIte, Nat.reduceEqDiff, Nat.reduceLT, Nat.reduceLeDiff, Nat.reduceAdd, Nat.reduceMul, Nat.reduceSub, reduceCtorEq, Nat.reduceMod, Nat.reduceBEq, Int.reduceBEq, Int.reduceBNe, Int.reduceToNat, hp]
  refine At_spec h ho hn _ _ _ ?_
  generalize atL n.list ((below key n.list).length : Nat) = q at hK ⊢
  cases q <;> (simp -implicitDefEqProofs only [go_sem, ↓reduceIte, Nat.reduceEqDiff, Nat.reduceLT, Nat.reduceLeDiff, Nat.reduceAdd, Nat.reduceMul, Nat.reduceSub, reduceCtorEq, Nat.reduceMod, Nat.reduceBEq, Int.reduceBEq, Int.reduceBNe, Int.reduceToNat, encOp]; exact ⟨S, fun _ _ h => h, hK⟩)
end Go.Proofs.Ytmedhhjbknnfkaa.V
