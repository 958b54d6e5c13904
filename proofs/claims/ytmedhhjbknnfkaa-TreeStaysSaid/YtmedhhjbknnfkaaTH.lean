/- Trees: of pairs; ranks and places. -/
import Derived.Test.YtmedhhjbknnfkaaTG
set_option linter.unusedVariables false
set_option linter.unusedSimpArgs false
namespace Go.Proofs.Ytmedhhjbknnfkaa.V
open Go Go.VL

def encP (p : Pr) : List PV := [.str p.1, .str p.2]
def encPs (l : List Pr) : List (List PV) := l.map encP
@[go_sem] theorem len_encPs (l : List Pr) : (encPs l).length = l.length := by simp [encPs]
@[go_sem] theorem encPs_take (k : Nat) (l : List Pr) : List.take k (encPs l) = encPs (l.take k) := by simp [encPs, List.map_take]
@[go_sem] theorem encPs_drop (k : Nat) (l : List Pr) : List.drop k (encPs l) = encPs (l.drop k) := by simp [encPs, List.map_drop]
theorem encPs_app (a b : List Pr) : encPs (a ++ b) = encPs a ++ encPs b := by simp [encPs]
theorem encPs_one (a : List Pr) (k v : ByteArray) : encPs a ++ [[.str k, .str v]] = encPs (a ++ [(k, v)]) := by simp [encPs, encP]
theorem getD_encPs {l : List Pr} {k : Nat} {p : Pr} (h : l[k]? = some p) : (encPs l).getD k [] = [.str p.1, .str p.2] := by
  simp [encPs, encP, List.getD_eq_getElem?_getD, h]

def ofL (L : List Pr) : List Pr := L.foldl (fun acc p => putL p.1 p.2 acc) []
theorem ofL_snoc (L : List Pr) (p : Pr) : ofL (L ++ [p]) = putL p.1 p.2 (ofL L) := by simp [ofL]
theorem ofL_take {L : List Pr} {k : Nat} {p : Pr} (h : L[k]? = some p) : ofL (L.take (k + 1)) = putL p.1 p.2 (ofL (L.take k)) := by
  rw [List.take_add_one, h]
  exact ofL_snoc _ p
theorem ofL_ok : ∀ (L : List Pr), Sorted (ofL L) ∧ (ofL L).length ≤ L.length := by
  intro L
  suffices h : ∀ (n : Nat) (L : List Pr), L.length = n → Sorted (ofL L) ∧ (ofL L).length ≤ L.length from h _ L rfl
  intro n
  induction n with
  | zero => intro L h; rw [List.eq_nil_of_length_eq_zero h]; exact ⟨List.Pairwise.nil, Nat.le_refl _⟩
  | succ n ih =>
    intro L h
    obtain ⟨A, p, rfl⟩ : ∃ A p, L = A ++ [p] := ⟨L.dropLast, L.getLast (by intro e; rw [e] at h; cases h), (List.dropLast_concat_getLast _).symm⟩
    have hA : A.length = n := by simpa using h
    obtain ⟨h1, h2⟩ := ih A hA
    rw [ofL_snoc]
    have := put_len h1 p.1 p.2
    exact ⟨sorted_put h1 _ _, by simp only [List.length_append, List.length_cons, List.length_nil]; omega⟩

theorem Of_calls (L : List Pr) (hL : L.length ≤ 100000) (S : Store) (K : PV → Store → Prop) (hK : ∀ q, Ok q → q.list = ofL L → K (.ip [enc q] 0) S) :
    PCalls Try.prog 18 [.sl .no 2 (encPs L)] S K := by
  refine pcalls_of (C := C) (fun _ => false) (fun _ => false) Try.func18 rfl rfl (by simp [Try.f18]) ?_
  simp -implicitDefEqProofs only [go_sem, ↓reduceIte, Nat.reduceEqDiff, Nat.reduceLT, Nat.reduceLeDiff, Nat.reduceAdd, Nat.reduceMul, Nat.reduceSub, reduceCtorEq, Nat.reduceMod, Nat.reduceBEq, Int.reduceBEq, Int.reduceBNe, Int.reduceToNat, Try.f18]
  refine vloop (fun e S' => S' = S ∧ ∃ (k : Nat) (t : T), k ≤ L.length ∧ Ok t ∧ t.list = ofL (L.take k) ∧ e 3 = enc t ∧ e 6 = .sl .no 2 (encPs L) ∧ e 7 = .int .i64 L.length ∧ e 8 = .int .i64 k) (fun e _ => L.length - iv (e 8)) ?_ ?_
  · exact ⟨rfl, 0, .nil, Nat.zero_le _, trivial, rfl, rfl, rfl, rfl, rfl⟩
  · rintro J M Q' hJ hM hQ e S' ⟨rfl, k, t, hk, ho, ht, e3, e6, e7, e8⟩
    simp -implicitDefEqProofs only [go_sem, ↓reduceIte, Nat.reduceEqDiff, Nat.reduceLT, Nat.reduceLeDiff, Nat.reduceAdd, Nat.reduceMul, Nat.reduceSub, reduceCtorEq, Nat.reduceMod, Nat.reduceBEq, Int.reduceBEq, Int.reduceBNe, Int.reduceToNat, e7, e8]
    by_cases hlt : k < L.length
    · obtain ⟨p, hp⟩ : ∃ p, L[k]? = some p := ⟨_, List.getElem?_eq_getElem hlt⟩
      have hin : (0 : Int) ≤ k ∧ (k : Int) < L.length := by omega
      have hk1 : IntKind.i64.wrap ((k : Int) + 1) = ((k + 1 : Nat) : Int) := wrap64 (by omega) (by omega)
      obtain ⟨s1, s2⟩ := ofL_ok (L.take k)
      rw [List.length_take] at s2
      obtain ⟨q, q1, q2, q3⟩ := put_spec p.1 p.2 t ho (by rw [ht]; exact s1) (by rw [ht]; omega)
      simp -implicitDefEqProofs only [go_sem, ↓reduceIte, Nat.reduceEqDiff, Nat.reduceLT, Nat.reduceLeDiff, Nat.reduceAdd, Nat.reduceMul, Nat.reduceSub, reduceCtorEq, Nat.reduceMod, Nat.reduceBEq, Int.reduceBEq, Int.reduceBNe, Int.reduceToNat, hin, e3, e6, e7, e8, getD_encPs hp]
      refine q3 _ _ ?_
      simp -implicitDefEqProofs only [go_sem, ↓reduceIte, Nat.reduceEqDiff, Nat.reduceLT, Nat.reduceLeDiff, Nat.reduceAdd, Nat.reduceMul, Nat.reduceSub, reduceCtorEq, Nat.reduceMod, Nat.reduceBEq, Int.reduceBEq, Int.reduceBNe, Int.reduceToNat, e8, hk1]
      refine vnext hJ hM S' (fun _ _ h => h) ⟨rfl, k + 1, q, hlt, q1, ?_, ?_, ?_, ?_, ?_⟩ ?_
      · rw [q2, ofL_take hp, ht]
      · simp -implicitDefEqProofs only [go_sem, ↓reduceIte, Nat.reduceEqDiff, Nat.reduceLT, Nat.reduceLeDiff, Nat.reduceAdd, Nat.reduceMul, Nat.reduceSub, reduceCtorEq, Nat.reduceMod, Nat.reduceBEq, Int.reduceBEq, Int.reduceBNe, Int.reduceToNat]
      · simp -implicitDefEqProofs only [go_sem, ↓reduceIte, Nat.reduceEqDiff, Nat.reduceLT, Nat.reduceLeDiff, Nat.reduceAdd, Nat.reduceMul, Nat.reduceSub, reduceCtorEq, Nat.reduceMod, Nat.reduceBEq, Int.reduceBEq, Int.reduceBNe, Int.reduceToNat, e6]
      · simp -implicitDefEqProofs only [go_sem, ↓reduceIte, Nat.reduceEqDiff, Nat.reduceLT, Nat.reduceLeDiff, Nat.reduceAdd, Nat.reduceMul, Nat.reduceSub, reduceCtorEq, Nat.reduceMod, Nat.reduceBEq, Int.reduceBEq, Int.reduceBNe, Int.reduceToNat, e7]
      · simp -implicitDefEqProofs only [go_sem, ↓reduceIte, Nat.reduceEqDiff, Nat.reduceLT, Nat.reduceLeDiff, Nat.reduceAdd, Nat.reduceMul, Nat.reduceSub, reduceCtorEq, Nat.reduceMod, Nat.reduceBEq, Int.reduceBEq, Int.reduceBNe, Int.reduceToNat]
      · simp -implicitDefEqProofs only [go_sem, ↓reduceIte, Nat.reduceEqDiff, Nat.reduceLT, Nat.reduceLeDiff, Nat.reduceAdd, Nat.reduceMul, Nat.reduceSub, reduceCtorEq, Nat.reduceMod, Nat.reduceBEq, Int.reduceBEq, Int.reduceBNe, Int.reduceToNat]
        omega
    · have hcc : ¬ (k : Int) < L.length := by omega
      simp -implicitDefEqProofs only [go_sem, ↓reduceIte, Nat.reduceEqDiff, Nat.reduceLT, Nat.reduceLeDiff, Nat.reduceAdd, Nat.reduceMul, Nat.reduceSub, reduceCtorEq, Nat.reduceMod, Nat.reduceBEq, Int.reduceBEq, Int.reduceBNe, Int.reduceToNat, hcc]
      refine hQ _ _ _ ?_
      simp -implicitDefEqProofs only [go_sem, ↓reduceIte, Nat.reduceEqDiff, Nat.reduceLT, Nat.reduceLeDiff, Nat.reduceAdd, Nat.reduceMul, Nat.reduceSub, reduceCtorEq, Nat.reduceMod, Nat.reduceBEq, Int.reduceBEq, Int.reduceBNe, Int.reduceToNat, e3]
      rw [List.take_of_length_le (by omega)] at ht
      exact ⟨S', fun _ _ h => h, hK t ho ht⟩

theorem below_ge {A B : List Pr} {k v x : ByteArray} (h : Sorted (A ++ (k, v) :: B)) (hx : lt k x = false) : below x (A ++ (k, v) :: B) = below x A := by
  obtain ⟨_, _, h1, h2⟩ := sorted_mid h
  have hB : below x B = [] := below_none fun b hb => by
    cases e : lt b.1 x with
    | false => rfl
    | true => rw [lt_trans (h2 b hb) e] at hx; cases hx
  rw [below_app, below_cons, hB]
  simp [hx]

theorem Rank_spec {p : PV} {n : T} (h : Tr p n) (ho : Ok n) (hs : Sorted n.list) (hn : n.list.length ≤ 1000000) (key : ByteArray) (S : Store) : PRet Try.prog 40 [p, .str key] S (.int .i64 (below key n.list).length) := by
  intro K hK
  refine pcalls_of (C := C) (fun _ => false) (fun _ => false) Try.func40 rfl rfl (by simp [Try.f40]) ?_
  have hp : p.bare = p := by rcases h with ⟨rfl, rfl⟩ | rfl <;> rfl
  simp -implicitDefEqProofs only [go_sem, ↓reduceIte, Nat.reduceEqDiff, Nat.reduceLT, Nat.reduceLeDiff, Nat.reduceAdd, Nat.reduceMul, Nat.reduceSub, reduceCtorEq, Nat.reduceMod, Nat.reduceBEq, Int.reduceBEq, Int.reduceBNe, Int.reduceToNat, Try.f40, hp]
  refine top_spec h _ _ ?_
  simp -implicitDefEqProofs only [go_sem, ↓reduceIte, Nat.reduceEqDiff, Nat.reduceLT, Nat.reduceLeDiff, Nat.reduceAdd, Nat.reduceMul, Nat.reduceSub, reduceCtorEq, Nat.reduceMod, Nat.reduceBEq, Int.reduceBEq, Int.reduceBNe, Int.reduceToNat]
  have hbl := below_len key n.list
  refine vloop (fun e S' => S' = S ∧ ∃ (k : Nat) (t : T), Ok t ∧ Sorted t.list ∧ t.list.length ≤ n.list.length ∧ k + (below key t.list).length = (below key n.list).length ∧ e 1 = .str key ∧ e 5 = .int .i64 k ∧ e 6 = enc t) (fun e _ => SizeOf.sizeOf (e 6)) ?_ ?_
  · exact ⟨rfl, 0, n, ho, hs, Nat.le_refl _, by simp, rfl, rfl, rfl⟩
  · rintro J M Q' hJ hM hQ e S' ⟨rfl, k, t, ot, st, lt0, hk, e1, e5, e6⟩
    cases t with
    | nil =>
      simp -implicitDefEqProofs only [go_sem, ↓reduceIte, Nat.reduceEqDiff, Nat.reduceLT, Nat.reduceLeDiff, Nat.reduceAdd, Nat.reduceMul, Nat.reduceSub, reduceCtorEq, Nat.reduceMod, Nat.reduceBEq, Int.reduceBEq, Int.reduceBNe, Int.reduceToNat, e6, enc_nil]
      refine hQ _ _ _ ?_
      simp -implicitDefEqProofs only [go_sem, ↓reduceIte, Nat.reduceEqDiff, Nat.reduceLT, Nat.reduceLeDiff, Nat.reduceAdd, Nat.reduceMul, Nat.reduceSub, reduceCtorEq, Nat.reduceMod, Nat.reduceBEq, Int.reduceBEq, Int.reduceBNe, Int.reduceToNat, e5]
      have : k = (below key n.list).length := by simpa [T.list, below] using hk
      rw [this]
      exact ⟨S', fun _ _ h => h, hK⟩
    | node a b l r d s =>
      obtain ⟨ol, orr, _, _, _, _⟩ := ot
      simp only [T.list] at st hk lt0
      obtain ⟨sl, sr, _, _⟩ := sorted_mid st
      obtain ⟨z1, z2, z3⟩ := ok_size l ol
      simp only [List.length_append, List.length_cons] at lt0
      simp -implicitDefEqProofs only [go_sem, ↓reduceIte, Nat.reduceEqDiff, Nat.reduceLT, Nat.reduceLeDiff, Nat.reduceAdd, Nat.reduceMul, Nat.reduceSub, reduceCtorEq, Nat.reduceMod, Nat.reduceBEq, Int.reduceBEq, Int.reduceBNe, Int.reduceToNat, e1, e6, enc_node]
      rcases (Bool.eq_false_or_eq_true (lt a key)).symm with c | c
      · rw [below_ge st c] at hk
        have c' : (lt key a || same key a) = true := by rw [lt_or_same, c]; rfl
        simp -implicitDefEqProofs only [go_sem, ↓reduceIte, Nat.reduceEqDiff, Nat.reduceLT, Nat.reduceLeDiff, Nat.reduceAdd, Nat.reduceMul, Nat.reduceSub, reduceCtorEq, Nat.reduceMod, Nat.reduceBEq, Int.reduceBEq, Int.reduceBNe, Int.reduceToNat, c', c, e6, enc_node]
        refine vnext hJ hM S' (fun _ _ h => h) ⟨rfl, k, l, ol, sl, by omega, hk, ?_, ?_, ?_⟩ ?_
        · simp -implicitDefEqProofs only [go_sem, ↓reduceIte, Nat.reduceEqDiff, Nat.reduceLT, Nat.reduceLeDiff, Nat.reduceAdd, Nat.reduceMul, Nat.reduceSub, reduceCtorEq, Nat.reduceMod, Nat.reduceBEq, Int.reduceBEq, Int.reduceBNe, Int.reduceToNat, e1]
        · simp -implicitDefEqProofs only [go_sem, ↓reduceIte, Nat.reduceEqDiff, Nat.reduceLT, Nat.reduceLeDiff, Nat.reduceAdd, Nat.reduceMul, Nat.reduceSub, reduceCtorEq, Nat.reduceMod, Nat.reduceBEq, Int.reduceBEq, Int.reduceBNe, Int.reduceToNat, e5]
        · simp -implicitDefEqProofs only [go_sem, ↓reduceIte, Nat.reduceEqDiff, Nat.reduceLT, Nat.reduceLeDiff, Nat.reduceAdd, Nat.reduceMul, Nat.reduceSub, reduceCtorEq, Nat.reduceMod, Nat.reduceBEq, Int.reduceBEq, Int.reduceBNe, Int.reduceToNat]
        · simp -implicitDefEqProofs only [go_sem, ↓reduceIte, Nat.reduceEqDiff, Nat.reduceLT, Nat.reduceLeDiff, Nat.reduceAdd, Nat.reduceMul, Nat.reduceSub, reduceCtorEq, Nat.reduceMod, Nat.reduceBEq, Int.reduceBEq, Int.reduceBNe, Int.reduceToNat, e6]; simp; omega
      · rw [(mid_more st c).1, List.length_append, List.length_cons] at hk
        have c' : (lt key a || same key a) = false := by rw [lt_or_same, c]; rfl
        have hw1 : IntKind.i64.wrap ((k : Int) + l.siz) = (k : Int) + l.siz := wrap64 (by omega) (by omega)
        have hw2 : IntKind.i64.wrap ((k : Int) + l.siz + 1) = ((k + l.list.length + 1 : Nat) : Int) := by rw [wrap64 (by omega) (by omega)]; omega
        simp -implicitDefEqProofs only [go_sem, ↓reduceIte, Nat.reduceEqDiff, Nat.reduceLT, Nat.reduceLeDiff, Nat.reduceAdd, Nat.reduceMul, Nat.reduceSub, reduceCtorEq, Nat.reduceMod, Nat.reduceBEq, Int.reduceBEq, Int.reduceBNe, Int.reduceToNat, c', c, e6, enc_node]
        refine vwp_draw (by decide +kernel) ?_
        simp -implicitDefEqProofs only [go_sem, ↓reduceIte, Nat.reduceEqDiff, Nat.reduceLT, Nat.reduceLeDiff, Nat.reduceAdd, Nat.reduceMul, Nat.reduceSub, reduceCtorEq, Nat.reduceMod, Nat.reduceBEq, Int.reduceBEq, Int.reduceBNe, Int.reduceToNat, e5, e6, enc_node]
        refine q_call _ (by simp -implicitDefEqProofs only [go_sem, ↓reduceIte, Nat.reduceEqDiff, Nat.reduceLT, Nat.reduceLeDiff, Nat.reduceAdd, Nat.reduceMul, Nat.reduceSub, reduceCtorEq, Nat.reduceMod, Nat.reduceBEq, Int.reduceBEq, Int.reduceBNe, Int.reduceToNat]; exact size_spec _ _) (by decide) rfl ?_
        simp -implicitDefEqProofs only [go_sem, ↓reduceIte, Nat.reduceEqDiff, Nat.reduceLT, Nat.reduceLeDiff, Nat.reduceAdd, Nat.reduceMul, Nat.reduceSub, reduceCtorEq, Nat.reduceMod, Nat.reduceBEq, Int.reduceBEq, Int.reduceBNe, Int.reduceToNat, e5, e6, enc_node, hw1, hw2]
        refine vnext hJ hM S' (fun _ _ h => h) ⟨rfl, k + l.list.length + 1, r, orr, sr, by omega, by omega, ?_, ?_, ?_⟩ ?_
        · simp -implicitDefEqProofs only [go_sem, ↓reduceIte, Nat.reduceEqDiff, Nat.reduceLT, Nat.reduceLeDiff, Nat.reduceAdd, Nat.reduceMul, Nat.reduceSub, reduceCtorEq, Nat.reduceMod, Nat.reduceBEq, Int.reduceBEq, Int.reduceBNe, Int.reduceToNat, e1]
        · simp -implicitDefEqProofs only [go_sem, ↓reduceIte, Nat.reduceEqDiff, Nat.reduceLT, Nat.reduceLeDiff, Nat.reduceAdd, Nat.reduceMul, Nat.reduceSub, reduceCtorEq, Nat.reduceMod, Nat.reduceBEq, Int.reduceBEq, Int.reduceBNe, Int.reduceToNat]
        · simp -implicitDefEqProofs only [go_sem, ↓reduceIte, Nat.reduceEqDiff, Nat.reduceLT, Nat.reduceLeDiff, Nat.reduceAdd, Nat.reduceMul, Nat.reduceSub, reduceCtorEq, Nat.reduceMod, Nat.reduceBEq, Int.reduceBEq, Int.reduceBNe, Int.reduceToNat]
        · simp -implicitDefEqProofs only [go_sem, ↓reduceIte, Nat.reduceEqDiff, Nat.reduceLT, Nat.reduceLeDiff, Nat.reduceAdd, Nat.reduceMul, Nat.reduceSub, reduceCtorEq, Nat.reduceMod, Nat.reduceBEq, Int.reduceBEq, Int.reduceBNe, Int.reduceToNat, e6]; simp; omega
end Go.Proofs.Ytmedhhjbknnfkaa.V
