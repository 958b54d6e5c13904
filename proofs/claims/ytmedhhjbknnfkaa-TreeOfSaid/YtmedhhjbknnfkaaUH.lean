/- Trees: pairs in an array of one's own; TreeOf. -/
import Derived.Test.YtmedhhjbknnfkaaUG
import Derived.Test.YtmedhhjbknnfkaaTU
set_option linter.unusedVariables false
set_option linter.unusedSimpArgs false
namespace Go.Proofs.Ytmedhhjbknnfkaa.V
open Go Go.VL

/-- All that one store has stands in the other. -/
def Sub (S S' : Store) : Prop := ∀ i c, S i = some c → S' i = some c
theorem Sub.refl (S : Store) : Sub S S := fun _ _ h => h
theorem Sub.set {S S' : Store} (h : Sub S S') {id : Nat} (hn : S' id = none) (c : Option (List PV)) : Sub S (S'.set id c) ∧ S id = none := by
  have hS : S id = none := by
    cases e : S id with
    | none => rfl
    | some x => have := h id x e; rw [hn] at this; cases this
  refine ⟨fun i x hi => ?_, hS⟩
  simp only [Store.set]
  rw [if_neg (fun e => by rw [e, hS] at hi; cases hi)]
  exact h i x hi
theorem Sub.over {S S' : Store} (h : Sub S S') {id : Nat} (hn : S id = none) (c : Option (List PV)) : Sub S (S'.set id c) := fun i x hi => by
  simp only [Store.set]
  rw [if_neg (fun e => by rw [e, hn] at hi; cases hi)]
  exact h i x hi
theorem Sub.grow {S S' : Store} (h : Sub S S') {id id' : Nat} (hn : S id = none) (hn' : (S'.set id none) id' = none) (c : List PV) : Sub S ((S'.set id none).set id' (some c)) ∧ S id' = none := (h.over hn none).set hn' (some c)
theorem set_at (S : Store) (id : Nat) (c : Option (List PV)) : (S.set id c) id = c := by simp [Store.set]

def cellsP (l : List Pr) : List PV := bareAll (encPs l)
theorem cellsP_cons (p : Pr) (l : List Pr) : cellsP (p :: l) = .str p.1 :: .str p.2 :: cellsP l := by
  have : encPs (p :: l) = encP p :: encPs l := rfl
  unfold cellsP
  rw [this, bareAll_cons]
  rfl
theorem cellsP_len : ∀ l : List Pr, (cellsP l).length = l.length * 2
  | [] => rfl
  | p :: l => by rw [cellsP_cons]; simp only [List.length_cons]; rw [cellsP_len l]; omega
theorem cellsP_bare : ∀ l : List Pr, (cellsP l).map PV.bare = cellsP l
  | [] => rfl
  | p :: l => by rw [cellsP_cons, List.map_cons, List.map_cons, cellsP_bare l]; rfl
theorem cellsP_one (l : List Pr) (k v : ByteArray) : cellsP l ++ [.str k, .str v] = cellsP (l ++ [(k, v)]) := by
  induction l with
  | nil => rfl
  | cons p l ih => rw [cellsP_cons, List.cons_append (a := p), cellsP_cons, ← ih]; rfl
theorem cellsP_at : ∀ (l : List Pr) (k : Nat) (p : Pr), l[k]? = some p → ((cellsP l).drop (k * 2)).take 2 = [.str p.1, .str p.2]
  | [], k, p, h => by simp at h
  | q :: l, 0, p, h => by
    simp at h
    subst h
    rw [cellsP_cons]
    rfl
  | q :: l, k + 1, p, h => by
    rw [cellsP_cons, show (k + 1) * 2 = k * 2 + 2 by omega]
    simp only [List.drop_succ_cons]
    exact cellsP_at l k p (by simpa using h)

theorem OfA_calls (L : List Pr) (hL : L.length ≤ 100000) (S : Store) (id : Nat) (hS : S id = some (cellsP L)) (K : PV → Store → Prop) (hK : ∀ q, Ok q → q.list = ofL L → K (.ip [enc q] 0) S) :
    PCalls Try.prog 18 [.arr .no id 0 L.length 2] S K := by
  refine pcalls_of (C := C) (fun _ => false) (fun _ => false) Try.func18 rfl rfl (by simp [Try.f18]) ?_
  simp -implicitDefEqProofs only [go_sem, ↓reduceIte, Nat.reduceEqDiff, Nat.reduceLT, Nat.reduceLeDiff, Nat.reduceAdd, Nat.reduceMul, Nat.reduceSub, reduceCtorEq, Nat.reduceMod, Nat.reduceBEq, Int.reduceBEq, Int.reduceBNe, Int.reduceToNat, Try.f18]
  refine vloop (fun e S' => S' = S ∧ ∃ (k : Nat) (t : T), k ≤ L.length ∧ Ok t ∧ t.list = ofL (L.take k) ∧ e 3 = enc t ∧ e 6 = .arr .no id 0 L.length 2 ∧ e 7 = .int .i64 L.length ∧ e 8 = .int .i64 k) (fun e _ => L.length - iv (e 8)) ?_ ?_
  · exact ⟨rfl, 0, .nil, Nat.zero_le _, trivial, rfl, rfl, rfl, rfl, rfl⟩
  · rintro J M Q' hJ hM hQ e S' ⟨rfl, k, t, hk, ho, ht, e3, e6, e7, e8⟩
    by_cases hlt : k < L.length
    · obtain ⟨p, hp⟩ : ∃ p, L[k]? = some p := ⟨_, List.getElem?_eq_getElem hlt⟩
      have hin : (0 : Int) ≤ k ∧ (k : Int) < L.length := by omega
      have hk1 : IntKind.i64.wrap ((k : Int) + 1) = ((k + 1 : Nat) : Int) := wrap64 (by omega) (by omega)
      obtain ⟨s1, s2⟩ := ofL_ok (L.take k)
      rw [List.length_take] at s2
      obtain ⟨q, q1, q2, q3⟩ := put_spec p.1 p.2 t ho (by rw [ht]; exact s1) (by rw [ht]; omega)
      have hfit : k * 2 + 2 ≤ (cellsP L).length := by rw [cellsP_len]; omega
      simp -implicitDefEqProofs only [go_sem, ↓reduceIte, Nat.reduceEqDiff, Nat.reduceLT, Nat.reduceLeDiff, Nat.reduceAdd, Nat.reduceMul, Nat.reduceSub, reduceCtorEq, Nat.reduceMod, Nat.reduceBEq, Int.reduceBEq, Int.reduceBNe, Int.reduceToNat, hin, hlt, e3, e6, e7, e8, hS, cellsP_bare, hfit, cellsP_at L k p hp]
      refine q3 _ _ ?_
      simp -implicitDefEqProofs only [go_sem, ↓reduceIte, Nat.reduceEqDiff, Nat.reduceLT, Nat.reduceLeDiff, Nat.reduceAdd, Nat.reduceMul, Nat.reduceSub, reduceCtorEq, Nat.reduceMod, Nat.reduceBEq, Int.reduceBEq, Int.reduceBNe, Int.reduceToNat, e8, hk1]
      refine vnext hJ hM S' (fun _ _ h => h) ⟨rfl, k + 1, q, hlt, q1, ?_, ?_, ?_, ?_, ?_⟩ ?_
      · rw [q2, ofL_take hp, ht]
      · simp -implicitDefEqProofs only [go_sem, ↓reduceIte, Nat.reduceEqDiff, Nat.reduceLT, Nat.reduceLeDiff, Nat.reduceAdd, Nat.reduceMul, Nat.reduceSub, reduceCtorEq, Nat.reduceMod, Nat.reduceBEq, Int.reduceBEq, Int.reduceBNe, Int.reduceToNat]
      · simp -implicitDefEqProofs only [go_sem, ↓reduceIte, Nat.reduceEqDiff, Nat.reduceLT, Nat.reduceLeDiff, Nat.reduceAdd, Nat.reduceMul, Nat.reduceSub, reduceCtorEq, Nat.reduceMod, Nat.reduceBEq, Int.reduceBEq, Int.reduceBNe, Int.reduceToNat, e6]
      · simp -implicitDefEqProofs only [go_sem, ↓reduceIte, Nat.reduceEqDiff, Nat.reduceLT, Nat.reduceLeDiff, Nat.reduceAdd, Nat.reduceMul, Nat.reduceSub, reduceCtorEq, Nat.reduceMod, Nat.reduceBEq, Int.reduceBEq, Int.reduceBNe, Int.reduceToNat, e7]
      · simp -implicitDefEqProofs only [go_sem, ↓reduceIte, Nat.reduceEqDiff, Nat.reduceLT, Nat.reduceLeDiff, Nat.reduceAdd, Nat.reduceMul, Nat.reduceSub, reduceCtorEq, Nat.reduceMod, Nat.reduceBEq, Int.reduceBEq, Int.reduceBNe, Int.reduceToNat]
      · simp -implicitDefEqProofs only [go_sem, ↓reduceIte, Nat.reduceEqDiff, Nat.reduceLT, Nat.reduceLeDiff, Nat.reduceAdd, Nat.reduceMul, Nat.reduceSub, reduceCtorEq, Nat.reduceMod, Nat.reduceBEq, Int.reduceBEq, Int.reduceBNe, Int.reduceToNat, e8]
        omega
    · have hcc : ¬ (k : Int) < L.length := by omega
      simp -implicitDefEqProofs only [go_sem, ↓reduceIte, Nat.reduceEqDiff, Nat.reduceLT, Nat.reduceLeDiff, Nat.reduceAdd, Nat.reduceMul, Nat.reduceSub, reduceCtorEq, Nat.reduceMod, Nat.reduceBEq, Int.reduceBEq, Int.reduceBNe, Int.reduceToNat, hcc, e7, e8]
      refine hQ _ _ _ ?_
      simp -implicitDefEqProofs only [go_sem, ↓reduceIte, Nat.reduceEqDiff, Nat.reduceLT, Nat.reduceLeDiff, Nat.reduceAdd, Nat.reduceMul, Nat.reduceSub, reduceCtorEq, Nat.reduceMod, Nat.reduceBEq, Int.reduceBEq, Int.reduceBNe, Int.reduceToNat, e3]
      rw [List.take_of_length_le (by omega)] at ht
      exact ⟨S', fun _ _ h => h, hK t ho ht⟩

theorem ROfA_spec (L : List Pr) (hL : L.length ≤ 100000) (S : Store) (id : Nat) (hS : S id = some (cellsP L)) : PRet Try.prog 19 [.arr .no id 0 L.length 2] S (.sl .no 2 (encPs (ofL L))) := by
  intro K hK
  refine pcalls_of (C := C) (fun _ => false) (fun _ => false) Try.func19 rfl rfl (by simp [Try.f19]) ?_
  simp -implicitDefEqProofs only [go_sem, ↓reduceIte, Nat.reduceEqDiff, Nat.reduceLT, Nat.reduceLeDiff, Nat.reduceAdd, Nat.reduceMul, Nat.reduceSub, reduceCtorEq, Nat.reduceMod, Nat.reduceBEq, Int.reduceBEq, Int.reduceBNe, Int.reduceToNat, Try.f19]
  refine vloop (fun e S' => S' = S ∧ ∃ (k : Nat), k ≤ L.length ∧ (e 3).bare = .sl .no 2 (encPs (ofL (L.take k))) ∧ e 6 = .arr .no id 0 L.length 2 ∧ e 7 = .int .i64 L.length ∧ e 8 = .int .i64 k) (fun e _ => L.length - iv (e 8)) ?_ ?_
  · exact ⟨rfl, 0, Nat.zero_le _, rfl, rfl, rfl, rfl⟩
  · rintro J M Q' hJ hM hQ e S' ⟨rfl, k, hk, e3, e6, e7, e8⟩
    by_cases hlt : k < L.length
    · obtain ⟨p, hp⟩ : ∃ p, L[k]? = some p := ⟨_, List.getElem?_eq_getElem hlt⟩
      have hin : (0 : Int) ≤ k ∧ (k : Int) < L.length := by omega
      have hk1 : IntKind.i64.wrap ((k : Int) + 1) = ((k + 1 : Nat) : Int) := wrap64 (by omega) (by omega)
      obtain ⟨s1, s2⟩ := ofL_ok (L.take k)
      rw [List.length_take] at s2
      have hfit : k * 2 + 2 ≤ (cellsP L).length := by rw [cellsP_len]; omega
      simp -implicitDefEqProofs only [go_sem, ↓reduceIte, Nat.reduceEqDiff, Nat.reduceLT, Nat.reduceLeDiff, Nat.reduceAdd, Nat.reduceMul, Nat.reduceSub, reduceCtorEq, Nat.reduceMod, Nat.reduceBEq, Int.reduceBEq, Int.reduceBNe, Int.reduceToNat, hin, hlt, e3, e6, e7, e8, hS, cellsP_bare, hfit, cellsP_at L k p hp]
      refine With_spec _ s1 p.1 p.2 (by omega) _ _ ?_
      simp -implicitDefEqProofs only [go_sem, ↓reduceIte, Nat.reduceEqDiff, Nat.reduceLT, Nat.reduceLeDiff, Nat.reduceAdd, Nat.reduceMul, Nat.reduceSub, reduceCtorEq, Nat.reduceMod, Nat.reduceBEq, Int.reduceBEq, Int.reduceBNe, Int.reduceToNat, e8, hk1]
      refine vnext hJ hM S' (fun _ _ h => h) ⟨rfl, k + 1, hlt, ?_, ?_, ?_, ?_⟩ ?_
      · simp -implicitDefEqProofs only [go_sem, ↓reduceIte, Nat.reduceEqDiff, Nat.reduceLT, Nat.reduceLeDiff, Nat.reduceAdd, Nat.reduceMul, Nat.reduceSub, reduceCtorEq, Nat.reduceMod, Nat.reduceBEq, Int.reduceBEq, Int.reduceBNe, Int.reduceToNat]
        rw [ofL_take hp]
      · simp -implicitDefEqProofs only [go_sem, ↓reduceIte, Nat.reduceEqDiff, Nat.reduceLT, Nat.reduceLeDiff, Nat.reduceAdd, Nat.reduceMul, Nat.reduceSub, reduceCtorEq, Nat.reduceMod, Nat.reduceBEq, Int.reduceBEq, Int.reduceBNe, Int.reduceToNat, e6]
      · simp -implicitDefEqProofs only [go_sem, ↓reduceIte, Nat.reduceEqDiff, Nat.reduceLT, Nat.reduceLeDiff, Nat.reduceAdd, Nat.reduceMul, Nat.reduceSub, reduceCtorEq, Nat.reduceMod, Nat.reduceBEq, Int.reduceBEq, Int.reduceBNe, Int.reduceToNat, e7]
      · simp -implicitDefEqProofs only [go_sem, ↓reduceIte, Nat.reduceEqDiff, Nat.reduceLT, Nat.reduceLeDiff, Nat.reduceAdd, Nat.reduceMul, Nat.reduceSub, reduceCtorEq, Nat.reduceMod, Nat.reduceBEq, Int.reduceBEq, Int.reduceBNe, Int.reduceToNat]
      · simp -implicitDefEqProofs only [go_sem, ↓reduceIte, Nat.reduceEqDiff, Nat.reduceLT, Nat.reduceLeDiff, Nat.reduceAdd, Nat.reduceMul, Nat.reduceSub, reduceCtorEq, Nat.reduceMod, Nat.reduceBEq, Int.reduceBEq, Int.reduceBNe, Int.reduceToNat, e8]
        omega
    · have hcc : ¬ (k : Int) < L.length := by omega
      simp -implicitDefEqProofs only [go_sem, ↓reduceIte, Nat.reduceEqDiff, Nat.reduceLT, Nat.reduceLeDiff, Nat.reduceAdd, Nat.reduceMul, Nat.reduceSub, reduceCtorEq, Nat.reduceMod, Nat.reduceBEq, Int.reduceBEq, Int.reduceBNe, Int.reduceToNat, hcc, e7, e8]
      refine hQ _ _ _ ?_
      simp -implicitDefEqProofs only [go_sem, ↓reduceIte, Nat.reduceEqDiff, Nat.reduceLT, Nat.reduceLeDiff, Nat.reduceAdd, Nat.reduceMul, Nat.reduceSub, reduceCtorEq, Nat.reduceMod, Nat.reduceBEq, Int.reduceBEq, Int.reduceBNe, Int.reduceToNat, e3]
      rw [List.take_of_length_le (by omega)]
      exact ⟨S', fun _ _ h => h, hK⟩

def pairL (l : List Do) : List Pr := l.map fun d => (d.k, d.v)
theorem pairL_take {l : List Do} {k : Nat} {d : Do} (h : l[k]? = some d) : pairL (l.take (k + 1)) = pairL (l.take k) ++ [(d.k, d.v)] := by
  rw [List.take_add_one, h]
  simp [pairL]
theorem pairL_len (l : List Do) : (pairL l).length = l.length := by simp [pairL]

set_option maxHeartbeats 2000000 in
theorem of_law (l : List Do) (S : Store) : PRet Try.prog 3 [.sl .no 3 (encDos l)] S (.bool true) := by
  intro K hK
  refine pcalls_of (C := C) (fun d => d == 20 || d == 3) (fun d => d == 3 || d == 27) Try.func3 rfl rfl (by simp [Try.f3]) ?_
  simp -implicitDefEqProofs only [go_sem, ↓reduceIte, Nat.reduceEqDiff, Nat.reduceLT, Nat.reduceLeDiff, Nat.reduceAdd, Nat.reduceMul, Nat.reduceSub, reduceCtorEq, Nat.reduceMod, Nat.reduceBEq, Int.reduceBEq, Int.reduceBNe, Int.reduceToNat, Try.f3]
  refine short_spec [l] (by simp) _ _ ?_
  cases h1 : shortF 0 [l]
  · simp -implicitDefEqProofs only [go_sem, ↓reduceIte, Nat.reduceEqDiff, Nat.reduceLT, Nat.reduceLeDiff, Nat.reduceAdd, Nat.reduceMul, Nat.reduceSub, reduceCtorEq, Nat.reduceMod, Nat.reduceBEq, Int.reduceBEq, Int.reduceBNe, Int.reduceToNat, h1]
    refine awake_spec _ _ ?_
    simp -implicitDefEqProofs only [go_sem, ↓reduceIte, Nat.reduceEqDiff, Nat.reduceLT, Nat.reduceLeDiff, Nat.reduceAdd, Nat.reduceMul, Nat.reduceSub, reduceCtorEq, Nat.reduceMod, Nat.reduceBEq, Int.reduceBEq, Int.reduceBNe, Int.reduceToNat]
    exact ⟨S, fun _ _ h => h, hK⟩
  · have hl : l.length ≤ 300 := short_len _ _ h1 _ (by simp)
    simp -implicitDefEqProofs only [go_sem, ↓reduceIte, Nat.reduceEqDiff, Nat.reduceLT, Nat.reduceLeDiff, Nat.reduceAdd, Nat.reduceMul, Nat.reduceSub, reduceCtorEq, Nat.reduceMod, Nat.reduceBEq, Int.reduceBEq, Int.reduceBNe, Int.reduceToNat, h1]
    intro id0 hid0
    refine vloop (fun e S' => ∃ (k : Nat) (id : Nat), k ≤ l.length ∧ Sub S S' ∧ S id = none ∧ S' id = some (cellsP (pairL (l.take k))) ∧ e 3 = .arr .tail id 0 k 2 ∧ e 14 = .sl .no 3 (encDos l) ∧ e 15 = .int .i64 l.length ∧ e 16 = .int .i64 k) (fun e _ => l.length - iv (e 16)) ?_ ?_
    · exact ⟨0, id0, Nat.zero_le _, (Sub.refl S).over hid0 _, hid0, set_at _ _ _, rfl, rfl, rfl, rfl⟩
    · rintro J M Q' hJ hM hQ e S' ⟨k, id, hk, hsub, hn, hid, e3, e14, e15, e16⟩
      have hcl : (cellsP (pairL (l.take k))).length = k * 2 := by rw [cellsP_len, pairL_len, List.length_take]; omega
      by_cases hlt : k < l.length
      · obtain ⟨d, hd⟩ : ∃ d, l[k]? = some d := ⟨_, List.getElem?_eq_getElem hlt⟩
        have hin : (0 : Int) ≤ k ∧ (k : Int) < l.length := by omega
        have hk1 : IntKind.i64.wrap ((k : Int) + 1) = ((k + 1 : Nat) : Int) := wrap64 (by omega) (by omega)
        have hap := small32 (k := k + 1) (by omega)
        simp -implicitDefEqProofs only [go_sem, ↓reduceIte, Nat.reduceEqDiff, Nat.reduceLT, Nat.reduceLeDiff, Nat.reduceAdd, Nat.reduceMul, Nat.reduceSub, reduceCtorEq, Nat.reduceMod, Nat.reduceBEq, Int.reduceBEq, Int.reduceBNe, Int.reduceToNat, hin, hlt, e3, e14, e15, e16, getD_encDos hd]
        refine pair_spec _ _ _ _ ?_
        simp -implicitDefEqProofs only [go_sem, ↓reduceIte, Nat.reduceEqDiff, Nat.reduceLT, Nat.reduceLeDiff, Nat.reduceAdd, Nat.reduceMul, Nat.reduceSub, reduceCtorEq, Nat.reduceMod, Nat.reduceBEq, Int.reduceBEq, Int.reduceBNe, Int.reduceToNat, e3, hid, List.length_replicate, hap, hcl, cellsP_bare]
        intro id' hid'
        obtain ⟨g1, g2⟩ := hsub.grow hn hid' (cellsP (pairL (l.take (k + 1))))
        rw [cellsP_one, ← pairL_take hd]
        simp -implicitDefEqProofs only [go_sem, ↓reduceIte, Nat.reduceEqDiff, Nat.reduceLT, Nat.reduceLeDiff, Nat.reduceAdd, Nat.reduceMul, Nat.reduceSub, reduceCtorEq, Nat.reduceMod, Nat.reduceBEq, Int.reduceBEq, Int.reduceBNe, Int.reduceToNat, e16, hk1]
        refine vnext hJ hM _ (fun _ _ h => h) ⟨k + 1, id', hlt, g1, g2, set_at _ _ _, ?_, ?_, ?_, ?_⟩ ?_
        · simp -implicitDefEqProofs only [go_sem, ↓reduceIte, Nat.reduceEqDiff, Nat.reduceLT, Nat.reduceLeDiff, Nat.reduceAdd, Nat.reduceMul, Nat.reduceSub, reduceCtorEq, Nat.reduceMod, Nat.reduceBEq, Int.reduceBEq, Int.reduceBNe, Int.reduceToNat]
        · simp -implicitDefEqProofs only [go_sem, ↓reduceIte, Nat.reduceEqDiff, Nat.reduceLT, Nat.reduceLeDiff, Nat.reduceAdd, Nat.reduceMul, Nat.reduceSub, reduceCtorEq, Nat.reduceMod, Nat.reduceBEq, Int.reduceBEq, Int.reduceBNe, Int.reduceToNat, e14]
        · simp -implicitDefEqProofs only [go_sem, ↓reduceIte, Nat.reduceEqDiff, Nat.reduceLT, Nat.reduceLeDiff, Nat.reduceAdd, Nat.reduceMul, Nat.reduceSub, reduceCtorEq, Nat.reduceMod, Nat.reduceBEq, Int.reduceBEq, Int.reduceBNe, Int.reduceToNat, e15]
        · simp -implicitDefEqProofs only [go_sem, ↓reduceIte, Nat.reduceEqDiff, Nat.reduceLT, Nat.reduceLeDiff, Nat.reduceAdd, Nat.reduceMul, Nat.reduceSub, reduceCtorEq, Nat.reduceMod, Nat.reduceBEq, Int.reduceBEq, Int.reduceBNe, Int.reduceToNat]
        · simp -implicitDefEqProofs only [go_sem, ↓reduceIte, Nat.reduceEqDiff, Nat.reduceLT, Nat.reduceLeDiff, Nat.reduceAdd, Nat.reduceMul, Nat.reduceSub, reduceCtorEq, Nat.reduceMod, Nat.reduceBEq, Int.reduceBEq, Int.reduceBNe, Int.reduceToNat, e16]
          omega
      · have hcc : ¬ (k : Int) < l.length := by omega
        have hkl : k = l.length := by omega
        subst hkl
        rw [List.take_of_length_le (Nat.le_refl _)] at hid
        have hpl := pairL_len l
        simp -implicitDefEqProofs only [go_sem, ↓reduceIte, Nat.reduceEqDiff, Nat.reduceLT, Nat.reduceLeDiff, Nat.reduceAdd, Nat.reduceMul, Nat.reduceSub, reduceCtorEq, Nat.reduceMod, Nat.reduceBEq, Int.reduceBEq, Int.reduceBNe, Int.reduceToNat, hcc, e15, e16]
        refine hQ _ _ _ ?_
        simp -implicitDefEqProofs only [go_sem, ↓reduceIte, Nat.reduceEqDiff, Nat.reduceLT, Nat.reduceLeDiff, Nat.reduceAdd, Nat.reduceMul, Nat.reduceSub, reduceCtorEq, Nat.reduceMod, Nat.reduceBEq, Int.reduceBEq, Int.reduceBNe, Int.reduceToNat, e3]
        rw [← hpl] at e3 ⊢
        generalize pairL l = L at hid hpl e3 ⊢
        have hLl : L.length ≤ 300 := by omega
        refine OfA_calls L (by omega) _ id hid _ fun t ot lt0 => ?_
        simp -implicitDefEqProofs only [go_sem, ↓reduceIte, Nat.reduceEqDiff, Nat.reduceLT, Nat.reduceLeDiff, Nat.reduceAdd, Nat.reduceMul, Nat.reduceSub, reduceCtorEq, Nat.reduceMod, Nat.reduceBEq, Int.reduceBEq, Int.reduceBNe, Int.reduceToNat, e3]
        refine ROfA_spec L (by omega) _ id hid _ ?_
        obtain ⟨z1, z2⟩ := ofL_ok L
        simp -implicitDefEqProofs only [go_sem, ↓reduceIte, Nat.reduceEqDiff, Nat.reduceLT, Nat.reduceLeDiff, Nat.reduceAdd, Nat.reduceMul, Nat.reduceSub, reduceCtorEq, Nat.reduceMod, Nat.reduceBEq, Int.reduceBEq, Int.reduceBNe, Int.reduceToNat, e3]
        refine vloop (fun e S2 => ∃ (i : Nat) (cs : List PV), i ≤ L.length ∧ Sub S S2 ∧ S2 id = some cs ∧ cs.length = L.length * 2 ∧ e 3 = .arr .tail id 0 L.length 2 ∧ e 6 = .ip [enc t] 0 ∧ e 7 = .sl .no 2 (encPs (ofL L)) ∧ e 34 = .int .i64 L.length ∧ e 35 = .int .i64 i) (fun e _ => L.length - iv (e 35)) ?_ ?_
        · exact ⟨0, cellsP L, Nat.zero_le _, hsub, hid, cellsP_len L, by simp -implicitDefEqProofs only [go_sem, ↓reduceIte, Nat.reduceEqDiff, Nat.reduceLT, Nat.reduceLeDiff, Nat.reduceAdd, Nat.reduceMul, Nat.reduceSub, reduceCtorEq, Nat.reduceMod, Nat.reduceBEq, Int.reduceBEq, Int.reduceBNe, Int.reduceToNat, e3], by simp -implicitDefEqProofs only [go_sem, ↓reduceIte, Nat.reduceEqDiff, Nat.reduceLT, Nat.reduceLeDiff, Nat.reduceAdd, Nat.reduceMul, Nat.reduceSub, reduceCtorEq, Nat.reduceMod, Nat.reduceBEq, Int.reduceBEq, Int.reduceBNe, Int.reduceToNat], by simp -implicitDefEqProofs only [go_sem, ↓reduceIte, Nat.reduceEqDiff, Nat.reduceLT, Nat.reduceLeDiff, Nat.reduceAdd, Nat.reduceMul, Nat.reduceSub, reduceCtorEq, Nat.reduceMod, Nat.reduceBEq, Int.reduceBEq, Int.reduceBNe, Int.reduceToNat], by simp -implicitDefEqProofs only [go_sem, ↓reduceIte, Nat.reduceEqDiff, Nat.reduceLT, Nat.reduceLeDiff, Nat.reduceAdd, Nat.reduceMul, Nat.reduceSub, reduceCtorEq, Nat.reduceMod, Nat.reduceBEq, Int.reduceBEq, Int.reduceBNe, Int.reduceToNat], by simp -implicitDefEqProofs only [go_sem, ↓reduceIte, Nat.reduceEqDiff, Nat.reduceLT, Nat.reduceLeDiff, Nat.reduceAdd, Nat.reduceMul, Nat.reduceSub, reduceCtorEq, Nat.reduceMod, Nat.reduceBEq, Int.reduceBEq, Int.reduceBNe, Int.reduceToNat]⟩
        · rintro J2 M2 Q2 hJ2 hM2 hQ2 e' S2 ⟨i, cs, hi, hsub2, hid2, hcs, g3, g6, g7, g34, g35⟩
          by_cases hl2 : i < L.length
          · have hin2 : (0 : Int) ≤ i ∧ (i : Int) < L.length := by omega
            have hi1 : IntKind.i64.wrap ((i : Int) + 1) = ((i + 1 : Nat) : Int) := wrap64 (by omega) (by omega)
            have hfit : i * 2 + 1 ≤ cs.length := by omega
            simp -implicitDefEqProofs only [go_sem, ↓reduceIte, Nat.reduceEqDiff, Nat.reduceLT, Nat.reduceLeDiff, Nat.reduceAdd, Nat.reduceMul, Nat.reduceSub, reduceCtorEq, Nat.reduceMod, Nat.reduceBEq, Int.reduceBEq, Int.reduceBNe, Int.reduceToNat, hin2, hl2, g3, g34, g35, hid2, hfit, hi1]
            refine vnext hJ2 hM2 _ (fun _ _ h => h) ⟨i + 1, _, hl2, hsub2.over hn _, set_at _ _ _, ?_, ?_, ?_, ?_, ?_, ?_⟩ ?_
            · simp only [psplice, List.length_append, List.length_take, List.length_cons, List.length_nil, List.length_drop]
              omega
            · simp -implicitDefEqProofs only [go_sem, ↓reduceIte, Nat.reduceEqDiff, Nat.reduceLT, Nat.reduceLeDiff, Nat.reduceAdd, Nat.reduceMul, Nat.reduceSub, reduceCtorEq, Nat.reduceMod, Nat.reduceBEq, Int.reduceBEq, Int.reduceBNe, Int.reduceToNat, g3]
            · simp -implicitDefEqProofs only [go_sem, ↓reduceIte, Nat.reduceEqDiff, Nat.reduceLT, Nat.reduceLeDiff, Nat.reduceAdd, Nat.reduceMul, Nat.reduceSub, reduceCtorEq, Nat.reduceMod, Nat.reduceBEq, Int.reduceBEq, Int.reduceBNe, Int.reduceToNat, g6]
            · simp -implicitDefEqProofs only [go_sem, ↓reduceIte, Nat.reduceEqDiff, Nat.reduceLT, Nat.reduceLeDiff, Nat.reduceAdd, Nat.reduceMul, Nat.reduceSub, reduceCtorEq, Nat.reduceMod, Nat.reduceBEq, Int.reduceBEq, Int.reduceBNe, Int.reduceToNat, g7]
            · simp -implicitDefEqProofs only [go_sem, ↓reduceIte, Nat.reduceEqDiff, Nat.reduceLT, Nat.reduceLeDiff, Nat.reduceAdd, Nat.reduceMul, Nat.reduceSub, reduceCtorEq, Nat.reduceMod, Nat.reduceBEq, Int.reduceBEq, Int.reduceBNe, Int.reduceToNat, g34]
            · simp -implicitDefEqProofs only [go_sem, ↓reduceIte, Nat.reduceEqDiff, Nat.reduceLT, Nat.reduceLeDiff, Nat.reduceAdd, Nat.reduceMul, Nat.reduceSub, reduceCtorEq, Nat.reduceMod, Nat.reduceBEq, Int.reduceBEq, Int.reduceBNe, Int.reduceToNat]
            · simp -implicitDefEqProofs only [go_sem, ↓reduceIte, Nat.reduceEqDiff, Nat.reduceLT, Nat.reduceLeDiff, Nat.reduceAdd, Nat.reduceMul, Nat.reduceSub, reduceCtorEq, Nat.reduceMod, Nat.reduceBEq, Int.reduceBEq, Int.reduceBNe, Int.reduceToNat, g35]
              omega
          · have hcc2 : ¬ (i : Int) < L.length := by omega
            simp -implicitDefEqProofs only [go_sem, ↓reduceIte, Nat.reduceEqDiff, Nat.reduceLT, Nat.reduceLeDiff, Nat.reduceAdd, Nat.reduceMul, Nat.reduceSub, reduceCtorEq, Nat.reduceMod, Nat.reduceBEq, Int.reduceBEq, Int.reduceBNe, Int.reduceToNat, hcc2, g34, g35]
            refine hQ2 _ _ _ ?_
            simp -implicitDefEqProofs only [go_sem, ↓reduceIte, Nat.reduceEqDiff, Nat.reduceLT, Nat.reduceLeDiff, Nat.reduceAdd, Nat.reduceMul, Nat.reduceSub, reduceCtorEq, Nat.reduceMod, Nat.reduceBEq, Int.reduceBEq, Int.reduceBNe, Int.reduceToNat, g6, g7]
            refine All_spec (Tr.mk t) ot (by rw [lt0]; exact z1) (by rw [lt0]; omega) _ _ ?_
            rw [lt0]
            simp -implicitDefEqProofs only [go_sem, ↓reduceIte, Nat.reduceEqDiff, Nat.reduceLT, Nat.reduceLeDiff, Nat.reduceAdd, Nat.reduceMul, Nat.reduceSub, reduceCtorEq, Nat.reduceMod, Nat.reduceBEq, Int.reduceBEq, Int.reduceBNe, Int.reduceToNat, g7]
            refine Same_refl (ofL L) (by omega) _ _ ?_
            simp -implicitDefEqProofs only [go_sem, ↓reduceIte, Nat.reduceEqDiff, Nat.reduceLT, Nat.reduceLeDiff, Nat.reduceAdd, Nat.reduceMul, Nat.reduceSub, reduceCtorEq, Nat.reduceMod, Nat.reduceBEq, Int.reduceBEq, Int.reduceBNe, Int.reduceToNat, g6]
            refine len_spec (Tr.mk t) _ _ ?_
            rw [(ok_size t ot).1, lt0]
            simp -implicitDefEqProofs only [go_sem, ↓reduceIte, Nat.reduceEqDiff, Nat.reduceLT, Nat.reduceLeDiff, Nat.reduceAdd, Nat.reduceMul, Nat.reduceSub, reduceCtorEq, Nat.reduceMod, Nat.reduceBEq, Int.reduceBEq, Int.reduceBNe, Int.reduceToNat, g7, beq_self_eq_true]
            refine awake_spec _ _ ?_
            simp -implicitDefEqProofs only [go_sem, ↓reduceIte, Nat.reduceEqDiff, Nat.reduceLT, Nat.reduceLeDiff, Nat.reduceAdd, Nat.reduceMul, Nat.reduceSub, reduceCtorEq, Nat.reduceMod, Nat.reduceBEq, Int.reduceBEq, Int.reduceBNe, Int.reduceToNat]
            exact ⟨S, hsub2, hK⟩
end Go.Proofs.Ytmedhhjbknnfkaa.V
