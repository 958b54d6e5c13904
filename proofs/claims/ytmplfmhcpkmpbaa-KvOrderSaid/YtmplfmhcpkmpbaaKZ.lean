/- Maps: operations in an array of one's own. -/
import Derived.Test.YtmplfmhcpkmpbaaKY
set_option linter.unusedVariables false
set_option linter.unusedSimpArgs false
namespace Go.Proofs.Ytmplfmhcpkmpbaa.V
open Go Go.VL

theorem swap_perm {l : List KO} {p q : Nat} {a b : KO} (hp : l[p]? = some a) (hq : l[q]? = some b) : ((l.set p b).set q a).Perm l := by
  obtain ⟨h1, e1⟩ := List.getElem?_eq_some_iff.1 hp
  obtain ⟨h2, e2⟩ := List.getElem?_eq_some_iff.1 hq
  have h := Array.swap_perm (xs := l.toArray) (i := p) (j := q) (by simpa using h1) (by simpa using h2)
  have h' := Array.perm_iff_toList_perm.1 h
  have : (l.toArray.swap p q (by simpa using h1) (by simpa using h2)).toList = (l.set p b).set q a := by
    simp [Array.swap, e1, e2]
  rw [this] at h'
  exact h'
def cellsO (l : List KO) : List PV := bareAll (encOs l)
theorem cellsO_cons (o : KO) (l : List KO) : cellsO (o :: l) = .str o.k :: .bool o.has :: .str o.v :: cellsO l := by
  have : encOs (o :: l) = encO o :: encOs l := rfl
  unfold cellsO
  rw [this, bareAll_cons]
  rfl
theorem cellsO_len : ∀ l : List KO, (cellsO l).length = l.length * 3
  | [] => rfl
  | p :: l => by rw [cellsO_cons]; simp only [List.length_cons]; rw [cellsO_len l]; omega
theorem cellsO_bare : ∀ l : List KO, (cellsO l).map PV.bare = cellsO l
  | [] => rfl
  | p :: l => by rw [cellsO_cons, List.map_cons, List.map_cons, List.map_cons, cellsO_bare l]; rfl
theorem cellsO_at : ∀ (l : List KO) (k : Nat) (p : KO), l[k]? = some p → ((cellsO l).drop (k * 3)).take 3 = [.str p.k, .bool p.has, .str p.v]
  | [], k, p, h => by simp at h
  | q :: l, 0, p, h => by
    simp at h
    subst h
    rw [cellsO_cons]
    rfl
  | q :: l, k + 1, p, h => by
    rw [cellsO_cons, show (k + 1) * 3 = k * 3 + 3 by omega]
    simp only [List.drop_succ_cons]
    exact cellsO_at l k p (by simpa using h)
theorem cellsO_set : ∀ (l : List KO) (k : Nat) (p : KO), k < l.length → (cellsO l).take (k * 3) ++ [.str p.k, .bool p.has, .str p.v] ++ (cellsO l).drop (k * 3 + 3) = cellsO (l.set k p)
  | [], k, p, h => by simp at h
  | q :: l, 0, p, h => by
    rw [cellsO_cons, List.set_cons_zero, cellsO_cons]
    rfl
  | q :: l, k + 1, p, h => by
    rw [cellsO_cons, List.set_cons_succ, cellsO_cons, show (k + 1) * 3 = k * 3 + 3 by omega]
    simp only [List.take_succ_cons, List.drop_succ_cons, List.cons_append]
    rw [cellsO_set l k p (by simpa using h)]

theorem cloneArr_calls (l : List KO) (hl : l.length ≤ 1000000) (S : Store) (K : PV → Store → Prop) (hK : ∀ id, S id = none → K (.arr .tail id 0 l.length 3) (S.set id (some (cellsO l)))) : PCalls Try.prog 29 [.sl .no 3 (encOs l)] S K := by
  refine pcalls_of (C := C) (fun d => d == 2) (fun d => d == 2 || d == 7) Try.func29 rfl rfl (by simp [Try.f29]) ?_
  simp -implicitDefEqProofs only [go_sem, ↓reduceIte, Nat.reduceEqDiff, Nat.reduceLT, Nat.reduceLeDiff, Nat.reduceAdd, Nat.reduceMul, Nat.reduceSub, reduceCtorEq, Nat.reduceMod, Nat.reduceBEq, Int.reduceBEq, Int.reduceBNe, Int.reduceToNat, Try.f29]
  intro id0 hid0 b hb
  cases b
  · simp -implicitDefEqProofs only [go_sem, ↓reduceIte, Nat.reduceEqDiff, Nat.reduceLT, Nat.reduceLeDiff, Nat.reduceAdd, Nat.reduceMul, Nat.reduceSub, reduceCtorEq, Nat.reduceMod, Nat.reduceBEq, Int.reduceBEq, Int.reduceBNe, Int.reduceToNat]
    have h1 := small40 (k := l.length) (by omega)
    simp -implicitDefEqProofs only [go_sem, ↓reduceIte, Nat.reduceEqDiff, Nat.reduceLT, Nat.reduceLeDiff, Nat.reduceAdd, Nat.reduceMul, Nat.reduceSub, reduceCtorEq, Nat.reduceMod, Nat.reduceBEq, Int.reduceBEq, Int.reduceBNe, Int.reduceToNat, h1]
    intro id hid
    obtain ⟨h2, h3⟩ := set_none hid
    exact ⟨S.set id (some (cellsO l)), fun i c hi => by
      simp only [Store.set] at hi ⊢
      split
      · rename_i h; rw [if_pos h] at hi; exact hi
      · rename_i h
        rw [if_neg h] at hi
        rw [if_neg (fun e => by rw [e, hid0] at hi; cases hi)]
        exact hi, hK id h3⟩
  · have h0 := hb rfl
    have hl0 : l = [] := List.eq_nil_of_length_eq_zero (by rw [← len_encOs, h0]; rfl)
    subst hl0
    simp -implicitDefEqProofs only [go_sem, ↓reduceIte, Nat.reduceEqDiff, Nat.reduceLT, Nat.reduceLeDiff, Nat.reduceAdd, Nat.reduceMul, Nat.reduceSub, reduceCtorEq, Nat.reduceMod, Nat.reduceBEq, Int.reduceBEq, Int.reduceBNe, Int.reduceToNat]
    intro id hid
    obtain ⟨h2, h3⟩ := set_none hid
    exact ⟨S.set id (some (cellsO [])), fun i c hi => by
      simp only [Store.set] at hi ⊢
      split
      · rename_i h; rw [if_pos h] at hi; exact hi
      · rename_i h
        rw [if_neg h] at hi
        rw [if_neg (fun e => by rw [e, hid0] at hi; cases hi)]
        exact hi, hK id h3⟩

theorem envD_put2 {ds : List (Nat × Nat × PV)} {L : Nat → Bool} {e0 : Env} {d i : Nat} {v : PV} (h : ds.find? (fun x => x.1 == d) = some (d, i, v)) (hn : ∀ x ∈ ds, x.2.1 = i → x.1 = d) :
    (envD ds L e0).put d v = envD ds (fun k => k == i || L k) e0 :=
  envD_put h fun t x hx hi => by
    have h1 := hn x (List.mem_of_find?_eq_some hx) hi
    have h2 := List.find?_some hx
    rw [← h1]
    exact (by simpa using h2 : x.1 = t).symm
theorem envD_skip {ds : List (Nat × Nat × PV)} {L : Nat → Bool} {e0 : Env} {i : Nat} (hn : ∀ x ∈ ds, x.2.1 ≠ i) : envD ds L e0 = envD ds (fun k => k == i || L k) e0 := by
  funext t
  unfold envD
  cases hx : ds.find? (fun x => x.1 == t) with
  | none => rfl
  | some x =>
    have : (x.2.1 == i) = false := by simpa using hn x (List.mem_of_find?_eq_some hx)
    simp [this]
end Go.Proofs.Ytmplfmhcpkmpbaa.V
