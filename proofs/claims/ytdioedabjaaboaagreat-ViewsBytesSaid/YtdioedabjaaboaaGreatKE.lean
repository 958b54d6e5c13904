/- Maps: whether conditions and operations may be. -/
import Derived.Test.YtdioedabjaaboaaGreatKD
set_option linter.unusedVariables false
set_option linter.unusedSimpArgs false
namespace Go.Proofs.YtdioedabjaaboaaGreat.V
open Go Go.VL

theorem drop_cons {α : Type} {l : List α} {k : Nat} {x : α} (h : l[k]? = some x) : l.drop k = x :: l.drop (k + 1) := by
 obtain ⟨hlt, hx⟩ := List.getElem?_eq_some_iff.1 h
 rw [List.drop_eq_getElem_cons hlt, hx]
theorem bn1 : (true != false) = true := rfl
theorem bn2 : (false != false) = false := rfl
theorem bn3 : (true != true) = false := rfl
theorem bn4 : (false != true) = true := rfl
theorem bt1 : (true == true) = true := rfl
theorem bt2 : (true == false) = false := rfl
theorem bt3 : (false == true) = false := rfl
theorem bt4 : (false == false) = true := rfl
theorem i20 : ((20 : Int) != 0) = true := rfl
theorem i21 : ((21 : Int) != 0) = true := rfl
theorem i00 : ((0 : Int) != 0) = false := rfl
theorem e00 : ((0 : Int) == 0) = true := rfl

/-- An operation. -/
structure KO where
 k : ByteArray
 has : Bool
 v : ByteArray
def encO (o : KO) : List PV := [.str o.k, .bool o.has, .str o.v]
def encOs (l : List KO) : List (List PV) := l.map encO
@[go_sem] theorem len_encOs (l : List KO) : (encOs l).length = l.length := by simp [encOs]
theorem getD_encOs {l : List KO} {k : Nat} {p : KO} (h : l[k]? = some p) : (encOs l).getD k [] = [.str p.k, .bool p.has, .str p.v] := by
 simp [encOs, encO, List.getD_eq_getElem?_getD, h]
theorem encOs_one (a : List KO) (k : ByteArray) (h : Bool) (v : ByteArray) : encOs a ++ [[.str k, .bool h, .str v]] = encOs (a ++ [⟨k, h, v⟩]) := by simp [encOs, encO]
def badV (o : KO) : Bool := if o.has then !valQ o.v else !same o.v ⟨#[]⟩
def seenQ (k : ByteArray) (l : List KO) : Bool := l.any fun o => same o.k k
theorem seenQ_snoc (k : ByteArray) (l : List KO) (o : KO) : seenQ k (l ++ [o]) = (seenQ k l || same o.k k) := by simp [seenQ]
def rightF (pre : List KO) : List KO → Int
 | [] => 0
 | o :: l => if keyQ o.k then (if badV o then 21 else if seenQ o.k pre then 61 else rightF (pre ++ [o]) l) else 20
theorem take_snoc {l : List KO} {k : Nat} {o : KO} (h : l[k]? = some o) : l.take (k + 1) = l.take k ++ [o] := by rw [List.take_add_one, h]; rfl

theorem lookS_upd (k k' : ByteArray) (v : Value) : ∀ L : List (ByteArray × Value), lookS k' (updS k v L) = if same k k' then some v else lookS k' L
 | [] => by
  unfold updS lookS
  by_cases h : k = k'
  ·subst h
   have : (k == k) = true := (MapKept.bytes_beq k k).2 rfl
   rw [this, same_refl]; rfl
  ·have : (k' == k) = false := by
    cases e : (k' == k) with
    | false => rfl
    | true => exact absurd ((MapKept.bytes_beq _ _).1 e).symm h
   rw [this, same_ne h]; rfl
 | p :: L => by
  have ih := lookS_upd k k' v L
  unfold updS
  cases e : (k == p.1) with
  | true =>
   have hk := (MapKept.bytes_beq _ _).1 e
   simp only [if_true]
   unfold lookS
   by_cases h : k = k'
   ·subst h
    rw [e, same_refl]; rfl
   ·have : (k' == p.1) = false := by
     cases e2 : (k' == p.1) with
     | false => rfl
     | true => exact absurd (hk.trans ((MapKept.bytes_beq _ _).1 e2).symm) h
    dsimp only
    rw [this, same_ne h]; rfl
  | false =>
   simp only [Bool.false_eq_true, if_false]
   unfold lookS
   cases e2 : (k' == p.1) with
   | true =>
    have hk := (MapKept.bytes_beq _ _).1 e2
    have : same k k' = false := same_ne fun h => by
     rw [h, hk] at e
     have := (MapKept.bytes_beq p.1 p.1).2 rfl
     rw [this] at e
     cases e
    simp only [if_true]
    rw [this]; rfl
   | false =>
    simp only [Bool.false_eq_true, if_false]
    exact ih

def Had (L : List (ByteArray × Value)) (pre : List KO) : Prop := ∀ k, lookS k L = if seenQ k pre then some (.bool true) else none
theorem Had.nil : Had [] [] := fun _ => rfl
theorem Had.more {L : List (ByteArray × Value)} {pre : List KO} (h : Had L pre) (o : KO) : Had (updS o.k (.bool true) L) (pre ++ [o]) := fun k => by
 rw [lookS_upd, seenQ_snoc, h k]
 cases same o.k k <;> cases seenQ k pre <;> rfl

set_option maxHeartbeats 1000000 in
theorem rightO_spec (l : List KO) (hl : l.length ≤ 1000000) (S : Store) : PRet Tryz.prog 92 [.sl .no 3 (encOs l)] S (.int .i64 (rightF [] l)) := by
 intro K hK
 refine pcalls_of (C := C) (fun d => d == 3) (fun _ => false) Tryz.func92 rfl rfl (by simp [Tryz.f92]) ?_
 simp -implicitDefEqProofs only [go_sem, ↓reduceIte, Nat.reduceEqDiff, Nat.reduceLT, Nat.reduceLeDiff, Nat.reduceAdd, Nat.reduceMul, Nat.reduceSub, reduceCtorEq, Nat.reduceMod, Nat.reduceBEq, Int.reduceBEq, Int.reduceBNe, Int.reduceToNat, Tryz.f92]
 intro b
 refine vloop (fun e S' => S' = S ∧ ∃ (k : Nat) (L : List (ByteArray × Value)), k ≤ l.length ∧ rightF [] l = rightF (l.take k) (l.drop k) ∧ Had L (l.take k) ∧ e 3 = .mapo b L ∧ e 7 = .sl .no 3 (encOs l) ∧ e 8 = .int .i64 l.length ∧ e 9 = .int .i64 k) (fun e _ => l.length - iv (e 9)) ?_ ?_
 ·exact ⟨rfl, 0, [], Nat.zero_le _, rfl, Had.nil, rfl, rfl, rfl, rfl⟩
 ·rintro J M Q' hJ hM hQ e S' ⟨rfl, k, L, hk, hr, hH, e3, e7, e8, e9⟩
  by_cases hlt : k < l.length
  ·obtain ⟨o, ho⟩ : ∃ o, l[k]? = some o := ⟨_, List.getElem?_eq_getElem hlt⟩
   have hin : (0 : Int) ≤ k ∧ (k : Int) < l.length := by omega
   have hk1 : IntKind.i64.wrap ((k : Int) + 1) = ((k + 1 : Nat) : Int) := wrap64 (by omega) (by omega)
   rw [drop_cons ho, rightF] at hr
   simp -implicitDefEqProofs only [go_sem, ↓reduceIte, Nat.reduceEqDiff, Nat.reduceLT, Nat.reduceLeDiff, Nat.reduceAdd, Nat.reduceMul, Nat.reduceSub, reduceCtorEq, Nat.reduceMod, Nat.reduceBEq, Int.reduceBEq, Int.reduceBNe, Int.reduceToNat, hin, hlt, e7, e8, e9, getD_encOs ho]
   refine key_spec _ _ _ ?_
   cases a1 : keyQ o.k
   ·rw [a1] at hr
    simp only [Bool.false_eq_true, if_false] at hr
    rw [hr] at hK
    simp -implicitDefEqProofs only [go_sem, ↓reduceIte, Nat.reduceEqDiff, Nat.reduceLT, Nat.reduceLeDiff, Nat.reduceAdd, Nat.reduceMul, Nat.reduceSub, reduceCtorEq, Nat.reduceMod, Nat.reduceBEq, Int.reduceBEq, Int.reduceBNe, Int.reduceToNat, i20]
    refine hQ _ _ _ ?_
    simp -implicitDefEqProofs only [go_sem, ↓reduceIte, Nat.reduceEqDiff, Nat.reduceLT, Nat.reduceLeDiff, Nat.reduceAdd, Nat.reduceMul, Nat.reduceSub, reduceCtorEq, Nat.reduceMod, Nat.reduceBEq, Int.reduceBEq, Int.reduceBNe, Int.reduceToNat]
    exact ⟨S', fun _ _ h => h, hK⟩
   ·rw [a1] at hr
    simp only [if_true] at hr
    have rest : badV o = false → (∀ e0 : Env, True) := fun _ _ => trivial
    cases a2 : badV o
    ·rw [a2] at hr
     simp only [Bool.false_eq_true, if_false] at hr
     cases a0 : o.has
     ·have a3 : same o.v ⟨#[]⟩ = true := by
       unfold badV at a2
       rw [a0] at a2
       simpa using a2
      simp -implicitDefEqProofs only [go_sem, ↓reduceIte, Nat.reduceEqDiff, Nat.reduceLT, Nat.reduceLeDiff, Nat.reduceAdd, Nat.reduceMul, Nat.reduceSub, reduceCtorEq, Nat.reduceMod, Nat.reduceBEq, Int.reduceBEq, Int.reduceBNe, Int.reduceToNat, i00, a0, a3, e3]
      refine vown 3 L (by decide) (by simp -implicitDefEqProofs only [go_sem, ↓reduceIte, Nat.reduceEqDiff, e3]) ?_
      cases a4 : seenQ o.k (l.take k)
      ·rw [a4] at hr
       simp only [Bool.false_eq_true, if_false] at hr
       rw [hH o.k, a4]
       simp -implicitDefEqProofs only [go_sem, ↓reduceIte, Nat.reduceEqDiff, Nat.reduceLT, Nat.reduceLeDiff, Nat.reduceAdd, Nat.reduceMul, Nat.reduceSub, reduceCtorEq, Nat.reduceMod, Nat.reduceBEq, Int.reduceBEq, Int.reduceBNe, Int.reduceToNat, Bool.false_eq_true, if_false, Option.getD_none, e3]
       refine vown 3 L (by decide) (by simp -implicitDefEqProofs only [go_sem, ↓reduceIte, Nat.reduceEqDiff, e3]) ?_
       simp -implicitDefEqProofs only [go_sem, ↓reduceIte, Nat.reduceEqDiff, Nat.reduceLT, Nat.reduceLeDiff, Nat.reduceAdd, Nat.reduceMul, Nat.reduceSub, reduceCtorEq, Nat.reduceMod, Nat.reduceBEq, Int.reduceBEq, Int.reduceBNe, Int.reduceToNat, e9, hk1]
       refine vnext hJ hM S' (fun _ _ h => h) ⟨rfl, k + 1, _, hlt, by rw [take_snoc ho]; exact hr, by rw [take_snoc ho]; exact hH.more o, ?_, ?_, ?_, ?_⟩ ?_
       ·simp -implicitDefEqProofs only [go_sem, ↓reduceIte, Nat.reduceEqDiff]
       ·simp -implicitDefEqProofs only [go_sem, ↓reduceIte, Nat.reduceEqDiff, e7]
       ·simp -implicitDefEqProofs only [go_sem, ↓reduceIte, Nat.reduceEqDiff, e8]
       ·simp -implicitDefEqProofs only [go_sem, ↓reduceIte, Nat.reduceEqDiff]
       ·simp -implicitDefEqProofs only [go_sem, ↓reduceIte, Nat.reduceEqDiff, e9]
        omega
      ·rw [a4] at hr
       simp only [if_true] at hr
       rw [hr] at hK
       rw [hH o.k, a4]
       simp -implicitDefEqProofs only [go_sem, ↓reduceIte, Nat.reduceEqDiff, Nat.reduceLT, Nat.reduceLeDiff, Nat.reduceAdd, Nat.reduceMul, Nat.reduceSub, reduceCtorEq, Nat.reduceMod, Nat.reduceBEq, Int.reduceBEq, Int.reduceBNe, Int.reduceToNat, if_true, Option.getD_some]
       refine hQ _ _ _ ?_
       simp -implicitDefEqProofs only [go_sem, ↓reduceIte, Nat.reduceEqDiff, Nat.reduceLT, Nat.reduceLeDiff, Nat.reduceAdd, Nat.reduceMul, Nat.reduceSub, reduceCtorEq, Nat.reduceMod, Nat.reduceBEq, Int.reduceBEq, Int.reduceBNe, Int.reduceToNat]
       exact ⟨S', fun _ _ h => h, hK⟩
     ·have a3 : valQ o.v = true := by
       unfold badV at a2
       rw [a0] at a2
       simpa using a2
      simp -implicitDefEqProofs only [go_sem, ↓reduceIte, Nat.reduceEqDiff, Nat.reduceLT, Nat.reduceLeDiff, Nat.reduceAdd, Nat.reduceMul, Nat.reduceSub, reduceCtorEq, Nat.reduceMod, Nat.reduceBEq, Int.reduceBEq, Int.reduceBNe, Int.reduceToNat, i00, a0]
      refine val_spec _ _ _ ?_
      simp -implicitDefEqProofs only [go_sem, ↓reduceIte, Nat.reduceEqDiff, Nat.reduceLT, Nat.reduceLeDiff, Nat.reduceAdd, Nat.reduceMul, Nat.reduceSub, reduceCtorEq, Nat.reduceMod, Nat.reduceBEq, Int.reduceBEq, Int.reduceBNe, Int.reduceToNat, a3, i00, e3]
      refine vown 3 L (by decide) (by simp -implicitDefEqProofs only [go_sem, ↓reduceIte, Nat.reduceEqDiff, e3]) ?_
      cases a4 : seenQ o.k (l.take k)
      ·rw [a4] at hr
       simp only [Bool.false_eq_true, if_false] at hr
       rw [hH o.k, a4]
       simp -implicitDefEqProofs only [go_sem, ↓reduceIte, Nat.reduceEqDiff, Nat.reduceLT, Nat.reduceLeDiff, Nat.reduceAdd, Nat.reduceMul, Nat.reduceSub, reduceCtorEq, Nat.reduceMod, Nat.reduceBEq, Int.reduceBEq, Int.reduceBNe, Int.reduceToNat, Bool.false_eq_true, if_false, Option.getD_none, e3]
       refine vown 3 L (by decide) (by simp -implicitDefEqProofs only [go_sem, ↓reduceIte, Nat.reduceEqDiff, e3]) ?_
       simp -implicitDefEqProofs only [go_sem, ↓reduceIte, Nat.reduceEqDiff, Nat.reduceLT, Nat.reduceLeDiff, Nat.reduceAdd, Nat.reduceMul, Nat.reduceSub, reduceCtorEq, Nat.reduceMod, Nat.reduceBEq, Int.reduceBEq, Int.reduceBNe, Int.reduceToNat, e9, hk1]
       refine vnext hJ hM S' (fun _ _ h => h) ⟨rfl, k + 1, _, hlt, by rw [take_snoc ho]; exact hr, by rw [take_snoc ho]; exact hH.more o, ?_, ?_, ?_, ?_⟩ ?_
       ·simp -implicitDefEqProofs only [go_sem, ↓reduceIte, Nat.reduceEqDiff]
       ·simp -implicitDefEqProofs only [go_sem, ↓reduceIte, Nat.reduceEqDiff, e7]
       ·simp -implicitDefEqProofs only [go_sem, ↓reduceIte, Nat.reduceEqDiff, e8]
       ·simp -implicitDefEqProofs only [go_sem, ↓reduceIte, Nat.reduceEqDiff]
       ·simp -implicitDefEqProofs only [go_sem, ↓reduceIte, Nat.reduceEqDiff, e9]
        omega
      ·rw [a4] at hr
       simp only [if_true] at hr
       rw [hr] at hK
       rw [hH o.k, a4]
       simp -implicitDefEqProofs only [go_sem, ↓reduceIte, Nat.reduceEqDiff, Nat.reduceLT, Nat.reduceLeDiff, Nat.reduceAdd, Nat.reduceMul, Nat.reduceSub, reduceCtorEq, Nat.reduceMod, Nat.reduceBEq, Int.reduceBEq, Int.reduceBNe, Int.reduceToNat, if_true, Option.getD_some]
       refine hQ _ _ _ ?_
       simp -implicitDefEqProofs only [go_sem, ↓reduceIte, Nat.reduceEqDiff, Nat.reduceLT, Nat.reduceLeDiff, Nat.reduceAdd, Nat.reduceMul, Nat.reduceSub, reduceCtorEq, Nat.reduceMod, Nat.reduceBEq, Int.reduceBEq, Int.reduceBNe, Int.reduceToNat]
       exact ⟨S', fun _ _ h => h, hK⟩
    ·rw [a2] at hr
     simp only [if_true] at hr
     rw [hr] at hK
     cases a0 : o.has
     ·have a3 : same o.v ⟨#[]⟩ = false := by
       unfold badV at a2
       rw [a0] at a2
       simpa using a2
      simp -implicitDefEqProofs only [go_sem, ↓reduceIte, Nat.reduceEqDiff, Nat.reduceLT, Nat.reduceLeDiff, Nat.reduceAdd, Nat.reduceMul, Nat.reduceSub, reduceCtorEq, Nat.reduceMod, Nat.reduceBEq, Int.reduceBEq, Int.reduceBNe, Int.reduceToNat, i00, a0, a3]
      refine hQ _ _ _ ?_
      simp -implicitDefEqProofs only [go_sem, ↓reduceIte, Nat.reduceEqDiff, Nat.reduceLT, Nat.reduceLeDiff, Nat.reduceAdd, Nat.reduceMul, Nat.reduceSub, reduceCtorEq, Nat.reduceMod, Nat.reduceBEq, Int.reduceBEq, Int.reduceBNe, Int.reduceToNat]
      exact ⟨S', fun _ _ h => h, hK⟩
     ·have a3 : valQ o.v = false := by
       unfold badV at a2
       rw [a0] at a2
       simpa using a2
      simp -implicitDefEqProofs only [go_sem, ↓reduceIte, Nat.reduceEqDiff, Nat.reduceLT, Nat.reduceLeDiff, Nat.reduceAdd, Nat.reduceMul, Nat.reduceSub, reduceCtorEq, Nat.reduceMod, Nat.reduceBEq, Int.reduceBEq, Int.reduceBNe, Int.reduceToNat, i00, a0]
      refine val_spec _ _ _ ?_
      simp -implicitDefEqProofs only [go_sem, ↓reduceIte, Nat.reduceEqDiff, Nat.reduceLT, Nat.reduceLeDiff, Nat.reduceAdd, Nat.reduceMul, Nat.reduceSub, reduceCtorEq, Nat.reduceMod, Nat.reduceBEq, Int.reduceBEq, Int.reduceBNe, Int.reduceToNat, a3, i21, Bool.false_eq_true]
      refine hQ _ _ _ ?_
      simp -implicitDefEqProofs only [go_sem, ↓reduceIte, Nat.reduceEqDiff, Nat.reduceLT, Nat.reduceLeDiff, Nat.reduceAdd, Nat.reduceMul, Nat.reduceSub, reduceCtorEq, Nat.reduceMod, Nat.reduceBEq, Int.reduceBEq, Int.reduceBNe, Int.reduceToNat]
      exact ⟨S', fun _ _ h => h, hK⟩
  ·have hcc : ¬ (k : Int) < l.length := by omega
   rw [List.drop_of_length_le (by omega), rightF] at hr
   rw [hr] at hK
   simp -implicitDefEqProofs only [go_sem, ↓reduceIte, Nat.reduceEqDiff, Nat.reduceLT, Nat.reduceLeDiff, Nat.reduceAdd, Nat.reduceMul, Nat.reduceSub, reduceCtorEq, Nat.reduceMod, Nat.reduceBEq, Int.reduceBEq, Int.reduceBNe, Int.reduceToNat, hcc, e8, e9]
   refine hQ _ _ _ ?_
   simp -implicitDefEqProofs only [go_sem, ↓reduceIte, Nat.reduceEqDiff, Nat.reduceLT, Nat.reduceLeDiff, Nat.reduceAdd, Nat.reduceMul, Nat.reduceSub, reduceCtorEq, Nat.reduceMod, Nat.reduceBEq, Int.reduceBEq, Int.reduceBNe, Int.reduceToNat]
   exact ⟨S', fun _ _ h => h, hK⟩
end Go.Proofs.YtdioedabjaaboaaGreat.V
