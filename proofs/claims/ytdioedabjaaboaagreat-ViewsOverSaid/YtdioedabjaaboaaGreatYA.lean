/- Views: the document's texts: names. -/
import Derived.Test.YtdioedabjaaboaaGreatXP1
set_option linter.unusedVariables false
set_option linter.unusedSimpArgs false
namespace Go.VL
open Go
/-- A byte of a text. -/
def byteA (s : ByteArray) (i : Nat) : Int := ((s.data.getD i 0).toNat : Int)
def psix (C : Ctx) : Option TI → PV → PV → Option PV
 | some ⟨.str, _, _, _⟩, .str s, .int _ n => if 0 ≤ n ∧ n < s.size then some (.int .u8 (byteA s n.toNat)) else none
 | some ⟨.array len el, _, _, _⟩, .agg cs, .int _ n => if 0 ≤ n ∧ n < len then (match C.T el with | some te => ppart te cs (n.toNat * te.size) | none => none) else none
 | _, _, _ => none
theorem x_p_six {C : Ctx} {dd : Option Nat} {t : TypeId} {x y : Operand} {ty : TypeId} {p : String} {af : Array Edge} {gd : Option (Nat × Bool)} {e : Env} : pop C ⟨dd, .index t x y, ty, p, af, gd⟩ e = psix C (C.T t) (ev x e) (ev y e) := rfl
theorem x_six_s {C : Ctx} {q r : Nat} {z : List PV} {s : ByteArray} {k : IntKind} {n : Int} : psix C (some ⟨.str, q, r, z⟩) (.str s) (.int k n) = if 0 ≤ n ∧ n < s.size then some (.int .u8 (byteA s n.toNat)) else none := rfl
attribute [go_sem] x_p_six x_six_s
end Go.VL
namespace Go.Proofs.YtdioedabjaaboaaGreat.V
open Go Go.VL

def okB (s : ByteArray) (i : Nat) : Bool := decide (97 ≤ byteA s i) && decide (byteA s i ≤ 122)
def nameB (s : ByteArray) : Bool := (decide (1 ≤ s.size) && decide (s.size ≤ 8)) && (List.range s.size).all (okB s)
theorem allR_succ (p : Nat → Bool) (n k : Nat) (hk : k < n) : ((List.range n).drop k).all p = (p k && ((List.range n).drop (k + 1)).all p) := by
 have : (List.range n).drop k = k :: (List.range n).drop (k + 1) := by
  rw [List.drop_eq_getElem_cons (by simpa using hk)]
  simp
 rw [this, List.all_cons]
set_option maxHeartbeats 1000000 in
theorem RNameB_spec (s : ByteArray) (hs : s.size ≤ 140737488355328) (S : Store) : PRet Tryz.prog 56 [.str s] S (.int .i64 (if nameB s then 0 else 22)) := by
 intro K hK
 refine pcalls_of (C := C) (fun _ => false) (fun _ => false) Tryz.func56 rfl rfl (by simp [Tryz.f56]) ?_
 have hd1 : decide ((1 : Int) ≤ s.size) = decide (1 ≤ s.size) := by by_cases h : 1 ≤ s.size <;> simp [h] <;> omega
 have hd8 : decide ((s.size : Int) ≤ 8) = decide (s.size ≤ 8) := by by_cases h : s.size ≤ 8 <;> simp [h] <;> omega
 unfold nameB at hK
 generalize hq0 : (decide (1 ≤ s.size) && decide (s.size ≤ 8)) = q0 at hK
 cases hb1 : decide (1 ≤ s.size)
 ·rw [hb1] at hq0
  simp only [Bool.true_and, Bool.false_and] at hq0
  try subst hq0
  simp -implicitDefEqProofs only [go_sem, ↓reduceIte, Nat.reduceEqDiff, Nat.reduceLT, Nat.reduceLeDiff, Nat.reduceAdd, Nat.reduceMul, Nat.reduceSub, reduceCtorEq, Nat.reduceMod, Nat.reduceBEq, Int.reduceBEq, Int.reduceBNe, Int.reduceToNat, Tryz.f56, hd1, hd8, hb1, Bool.false_eq_true]
  refine vloop (fun e S' => S' = S ∧ ∃ (k : Nat) (q : Bool), k ≤ s.size ∧ (false && (List.range s.size).all (okB s)) = (q && ((List.range s.size).drop k).all (okB s)) ∧ e 0 = .str s ∧ e 3 = .bool q ∧ e 14 = .int .i64 s.size ∧ e 15 = .int .i64 k) (fun e _ => s.size - iv (e 15)) ?_ ?_
  ·exact ⟨rfl, 0, _, Nat.zero_le _, rfl, by simp -implicitDefEqProofs only [go_sem, ↓reduceIte, Nat.reduceEqDiff], by simp -implicitDefEqProofs only [go_sem, ↓reduceIte, Nat.reduceEqDiff], by simp -implicitDefEqProofs only [go_sem, ↓reduceIte, Nat.reduceEqDiff], by simp -implicitDefEqProofs only [go_sem, ↓reduceIte, Nat.reduceEqDiff]⟩
  ·rintro J M Q' hJ hM hQ e S' ⟨rfl, k, q, hk, hr, e0, e3, e14, e15⟩
   by_cases hlt : k < s.size
   ·have hlti : (k : Int) < (s.size : Int) := by omega
    have h0 : (0 : Int) ≤ (k : Int) ∧ (k : Int) < (s.size : Int) := by omega
    have hw : IntKind.i64.wrap ((k : Int) + 1) = ((k + 1 : Nat) : Int) := wrap64 (by omega) (by omega)
    rw [allR_succ _ _ _ hlt] at hr
    cases q
    ·simp -implicitDefEqProofs only [go_sem, ↓reduceIte, Nat.reduceEqDiff, Nat.reduceLT, Nat.reduceLeDiff, Nat.reduceAdd, Nat.reduceMul, Nat.reduceSub, reduceCtorEq, Nat.reduceMod, Nat.reduceBEq, Int.reduceBEq, Int.reduceBNe, Int.reduceToNat, e0, e3, e14, e15, hlti, Bool.false_eq_true, hw]
     refine vnext hJ hM S' (fun _ _ h => h) ⟨rfl, k + 1, false, hlt, by rw [hr]; simp only [Bool.false_and], ?_, ?_, ?_, ?_⟩ ?_
     ·simp -implicitDefEqProofs only [go_sem, ↓reduceIte, Nat.reduceEqDiff, e0]
     ·simp -implicitDefEqProofs only [go_sem, ↓reduceIte, Nat.reduceEqDiff]
     ·simp -implicitDefEqProofs only [go_sem, ↓reduceIte, Nat.reduceEqDiff, e14]
     ·simp -implicitDefEqProofs only [go_sem, ↓reduceIte, Nat.reduceEqDiff]
     ·simp -implicitDefEqProofs only [go_sem, ↓reduceIte, Nat.reduceEqDiff, e15, Int.toNat_natCast]
      omega
    ·by_cases c1 : 97 ≤ byteA s k
     ·have hok : okB s k = decide (byteA s k ≤ 122) := by unfold okB; rw [decide_eq_true c1, Bool.true_and]
      simp -implicitDefEqProofs only [go_sem, ↓reduceIte, Nat.reduceEqDiff, Nat.reduceLT, Nat.reduceLeDiff, Nat.reduceAdd, Nat.reduceMul, Nat.reduceSub, reduceCtorEq, Nat.reduceMod, Nat.reduceBEq, Int.reduceBEq, Int.reduceBNe, Int.reduceToNat, e0, e3, e14, e15, hlti, h0, Int.toNat_natCast, ge_iff_le, c1, hw]
      refine vnext hJ hM S' (fun _ _ h => h) ⟨rfl, k + 1, okB s k, hlt, by rw [hr, Bool.true_and], ?_, ?_, ?_, ?_⟩ ?_
      ·simp -implicitDefEqProofs only [go_sem, ↓reduceIte, Nat.reduceEqDiff, e0]
      ·simp -implicitDefEqProofs only [go_sem, ↓reduceIte, Nat.reduceEqDiff, hok]
      ·simp -implicitDefEqProofs only [go_sem, ↓reduceIte, Nat.reduceEqDiff, e14]
      ·simp -implicitDefEqProofs only [go_sem, ↓reduceIte, Nat.reduceEqDiff]
      ·simp -implicitDefEqProofs only [go_sem, ↓reduceIte, Nat.reduceEqDiff, e15, Int.toNat_natCast]
       omega
     ·have hok : okB s k = false := by unfold okB; rw [decide_eq_false c1, Bool.false_and]
      simp -implicitDefEqProofs only [go_sem, ↓reduceIte, Nat.reduceEqDiff, Nat.reduceLT, Nat.reduceLeDiff, Nat.reduceAdd, Nat.reduceMul, Nat.reduceSub, reduceCtorEq, Nat.reduceMod, Nat.reduceBEq, Int.reduceBEq, Int.reduceBNe, Int.reduceToNat, e0, e3, e14, e15, hlti, h0, Int.toNat_natCast, ge_iff_le, c1, Bool.false_eq_true, hw]
      refine vnext hJ hM S' (fun _ _ h => h) ⟨rfl, k + 1, false, hlt, by rw [hr, hok]; simp only [Bool.true_and, Bool.false_and], ?_, ?_, ?_, ?_⟩ ?_
      ·simp -implicitDefEqProofs only [go_sem, ↓reduceIte, Nat.reduceEqDiff, e0]
      ·simp -implicitDefEqProofs only [go_sem, ↓reduceIte, Nat.reduceEqDiff]
      ·simp -implicitDefEqProofs only [go_sem, ↓reduceIte, Nat.reduceEqDiff, e14]
      ·simp -implicitDefEqProofs only [go_sem, ↓reduceIte, Nat.reduceEqDiff]
      ·simp -implicitDefEqProofs only [go_sem, ↓reduceIte, Nat.reduceEqDiff, e15, Int.toNat_natCast]
       omega
   ·have hnl : ¬ (k : Int) < (s.size : Int) := by omega
    have hde : (List.range s.size).drop k = [] := List.drop_of_length_le (by simp; omega)
    rw [hde, List.all_nil, Bool.and_true] at hr
    rw [hr] at hK
    simp -implicitDefEqProofs only [go_sem, ↓reduceIte, Nat.reduceEqDiff, Nat.reduceLT, Nat.reduceLeDiff, Nat.reduceAdd, Nat.reduceMul, Nat.reduceSub, reduceCtorEq, Nat.reduceMod, Nat.reduceBEq, Int.reduceBEq, Int.reduceBNe, Int.reduceToNat, e14, e15, hnl]
    refine hQ _ _ _ ?_
    cases q
    ·simp -implicitDefEqProofs only [go_sem, ↓reduceIte, Nat.reduceEqDiff, Nat.reduceLT, Nat.reduceLeDiff, Nat.reduceAdd, Nat.reduceMul, Nat.reduceSub, reduceCtorEq, Nat.reduceMod, Nat.reduceBEq, Int.reduceBEq, Int.reduceBNe, Int.reduceToNat, e3, Bool.not_false]
     exact ⟨S', fun _ _ h => h, hK⟩
    ·simp -implicitDefEqProofs only [go_sem, ↓reduceIte, Nat.reduceEqDiff, Nat.reduceLT, Nat.reduceLeDiff, Nat.reduceAdd, Nat.reduceMul, Nat.reduceSub, reduceCtorEq, Nat.reduceMod, Nat.reduceBEq, Int.reduceBEq, Int.reduceBNe, Int.reduceToNat, e3, Bool.not_true, Bool.false_eq_true]
     exact ⟨S', fun _ _ h => h, hK⟩
 ·rw [hb1] at hq0
  simp only [Bool.true_and, Bool.false_and] at hq0
  try subst hq0
  simp -implicitDefEqProofs only [go_sem, ↓reduceIte, Nat.reduceEqDiff, Nat.reduceLT, Nat.reduceLeDiff, Nat.reduceAdd, Nat.reduceMul, Nat.reduceSub, reduceCtorEq, Nat.reduceMod, Nat.reduceBEq, Int.reduceBEq, Int.reduceBNe, Int.reduceToNat, Tryz.f56, hd1, hd8, hb1, Bool.false_eq_true]
  refine vloop (fun e S' => S' = S ∧ ∃ (k : Nat) (q : Bool), k ≤ s.size ∧ (decide (s.size ≤ 8) && (List.range s.size).all (okB s)) = (q && ((List.range s.size).drop k).all (okB s)) ∧ e 0 = .str s ∧ e 3 = .bool q ∧ e 14 = .int .i64 s.size ∧ e 15 = .int .i64 k) (fun e _ => s.size - iv (e 15)) ?_ ?_
  ·exact ⟨rfl, 0, _, Nat.zero_le _, rfl, by simp -implicitDefEqProofs only [go_sem, ↓reduceIte, Nat.reduceEqDiff], by simp -implicitDefEqProofs only [go_sem, ↓reduceIte, Nat.reduceEqDiff], by simp -implicitDefEqProofs only [go_sem, ↓reduceIte, Nat.reduceEqDiff], by simp -implicitDefEqProofs only [go_sem, ↓reduceIte, Nat.reduceEqDiff]⟩
  ·rintro J M Q' hJ hM hQ e S' ⟨rfl, k, q, hk, hr, e0, e3, e14, e15⟩
   by_cases hlt : k < s.size
   ·have hlti : (k : Int) < (s.size : Int) := by omega
    have h0 : (0 : Int) ≤ (k : Int) ∧ (k : Int) < (s.size : Int) := by omega
    have hw : IntKind.i64.wrap ((k : Int) + 1) = ((k + 1 : Nat) : Int) := wrap64 (by omega) (by omega)
    rw [allR_succ _ _ _ hlt] at hr
    cases q
    ·simp -implicitDefEqProofs only [go_sem, ↓reduceIte, Nat.reduceEqDiff, Nat.reduceLT, Nat.reduceLeDiff, Nat.reduceAdd, Nat.reduceMul, Nat.reduceSub, reduceCtorEq, Nat.reduceMod, Nat.reduceBEq, Int.reduceBEq, Int.reduceBNe, Int.reduceToNat, e0, e3, e14, e15, hlti, Bool.false_eq_true, hw]
     refine vnext hJ hM S' (fun _ _ h => h) ⟨rfl, k + 1, false, hlt, by rw [hr]; simp only [Bool.false_and], ?_, ?_, ?_, ?_⟩ ?_
     ·simp -implicitDefEqProofs only [go_sem, ↓reduceIte, Nat.reduceEqDiff, e0]
     ·simp -implicitDefEqProofs only [go_sem, ↓reduceIte, Nat.reduceEqDiff]
     ·simp -implicitDefEqProofs only [go_sem, ↓reduceIte, Nat.reduceEqDiff, e14]
     ·simp -implicitDefEqProofs only [go_sem, ↓reduceIte, Nat.reduceEqDiff]
     ·simp -implicitDefEqProofs only [go_sem, ↓reduceIte, Nat.reduceEqDiff, e15, Int.toNat_natCast]
      omega
    ·by_cases c1 : 97 ≤ byteA s k
     ·have hok : okB s k = decide (byteA s k ≤ 122) := by unfold okB; rw [decide_eq_true c1, Bool.true_and]
      simp -implicitDefEqProofs only [go_sem, ↓reduceIte, Nat.reduceEqDiff, Nat.reduceLT, Nat.reduceLeDiff, Nat.reduceAdd, Nat.reduceMul, Nat.reduceSub, reduceCtorEq, Nat.reduceMod, Nat.reduceBEq, Int.reduceBEq, Int.reduceBNe, Int.reduceToNat, e0, e3, e14, e15, hlti, h0, Int.toNat_natCast, ge_iff_le, c1, hw]
      refine vnext hJ hM S' (fun _ _ h => h) ⟨rfl, k + 1, okB s k, hlt, by rw [hr, Bool.true_and], ?_, ?_, ?_, ?_⟩ ?_
      ·simp -implicitDefEqProofs only [go_sem, ↓reduceIte, Nat.reduceEqDiff, e0]
      ·simp -implicitDefEqProofs only [go_sem, ↓reduceIte, Nat.reduceEqDiff, hok]
      ·simp -implicitDefEqProofs only [go_sem, ↓reduceIte, Nat.reduceEqDiff, e14]
      ·simp -implicitDefEqProofs only [go_sem, ↓reduceIte, Nat.reduceEqDiff]
      ·simp -implicitDefEqProofs only [go_sem, ↓reduceIte, Nat.reduceEqDiff, e15, Int.toNat_natCast]
       omega
     ·have hok : okB s k = false := by unfold okB; rw [decide_eq_false c1, Bool.false_and]
      simp -implicitDefEqProofs only [go_sem, ↓reduceIte, Nat.reduceEqDiff, Nat.reduceLT, Nat.reduceLeDiff, Nat.reduceAdd, Nat.reduceMul, Nat.reduceSub, reduceCtorEq, Nat.reduceMod, Nat.reduceBEq, Int.reduceBEq, Int.reduceBNe, Int.reduceToNat, e0, e3, e14, e15, hlti, h0, Int.toNat_natCast, ge_iff_le, c1, Bool.false_eq_true, hw]
      refine vnext hJ hM S' (fun _ _ h => h) ⟨rfl, k + 1, false, hlt, by rw [hr, hok]; simp only [Bool.true_and, Bool.false_and], ?_, ?_, ?_, ?_⟩ ?_
      ·simp -implicitDefEqProofs only [go_sem, ↓reduceIte, Nat.reduceEqDiff, e0]
      ·simp -implicitDefEqProofs only [go_sem, ↓reduceIte, Nat.reduceEqDiff]
      ·simp -implicitDefEqProofs only [go_sem, ↓reduceIte, Nat.reduceEqDiff, e14]
      ·simp -implicitDefEqProofs only [go_sem, ↓reduceIte, Nat.reduceEqDiff]
      ·simp -implicitDefEqProofs only [go_sem, ↓reduceIte, Nat.reduceEqDiff, e15, Int.toNat_natCast]
       omega
   ·have hnl : ¬ (k : Int) < (s.size : Int) := by omega
    have hde : (List.range s.size).drop k = [] := List.drop_of_length_le (by simp; omega)
    rw [hde, List.all_nil, Bool.and_true] at hr
    rw [hr] at hK
    simp -implicitDefEqProofs only [go_sem, ↓reduceIte, Nat.reduceEqDiff, Nat.reduceLT, Nat.reduceLeDiff, Nat.reduceAdd, Nat.reduceMul, Nat.reduceSub, reduceCtorEq, Nat.reduceMod, Nat.reduceBEq, Int.reduceBEq, Int.reduceBNe, Int.reduceToNat, e14, e15, hnl]
    refine hQ _ _ _ ?_
    cases q
    ·simp -implicitDefEqProofs only [go_sem, ↓reduceIte, Nat.reduceEqDiff, Nat.reduceLT, Nat.reduceLeDiff, Nat.reduceAdd, Nat.reduceMul, Nat.reduceSub, reduceCtorEq, Nat.reduceMod, Nat.reduceBEq, Int.reduceBEq, Int.reduceBNe, Int.reduceToNat, e3, Bool.not_false]
     exact ⟨S', fun _ _ h => h, hK⟩
    ·simp -implicitDefEqProofs only [go_sem, ↓reduceIte, Nat.reduceEqDiff, Nat.reduceLT, Nat.reduceLeDiff, Nat.reduceAdd, Nat.reduceMul, Nat.reduceSub, reduceCtorEq, Nat.reduceMod, Nat.reduceBEq, Int.reduceBEq, Int.reduceBNe, Int.reduceToNat, e3, Bool.not_true, Bool.false_eq_true]
     exact ⟨S', fun _ _ h => h, hK⟩
end Go.Proofs.YtdioedabjaaboaaGreat.V
