/- Maps: texts, rune by rune: keys and values. -/
import Derived.Test.YtdioedabjaaboaaGreatKC
set_option linter.unusedVariables false
set_option linter.unusedSimpArgs false
namespace Go.Proofs.YtdioedabjaaboaaGreat.V
open Go Go.VL

theorem decode_pos (s : ByteArray) (i : Nat) : 0 < (Utf8.decode s i).2 := by
 unfold Utf8.decode
 dsimp only
 repeat' split
 all_goals simp
def runes (s : ByteArray) (pos : Nat) : List Nat := if h : pos < s.size then (Utf8.decode s pos).1 :: runes s (pos + (Utf8.decode s pos).2) else []
termination_by s.size - pos
decreasing_by have := decode_pos s pos; omega
theorem runes_lt {s : ByteArray} {pos : Nat} (h : pos < s.size) : runes s pos = (Utf8.decode s pos).1 :: runes s (pos + (Utf8.decode s pos).2) := by rw [runes, dif_pos h]
theorem runes_ge {s : ByteArray} {pos : Nat} (h : ¬ pos < s.size) : runes s pos = [] := by rw [runes, dif_neg h]
def plainQ (c : Nat) : Bool := decide (32 ≤ c) && (decide (c ≠ 127) && decide (c ≠ 65533))
def allQ (lo hi n : Nat) (l : List Nat) : Bool := decide (lo ≤ n + l.length) && (decide (n + l.length ≤ hi) && l.all plainQ)
theorem allQ_nil (lo hi n : Nat) (h : n ≤ hi) : allQ lo hi n [] = decide (lo ≤ n) := by simp [allQ, h]
theorem allQ_cons (lo hi n c : Nat) (l : List Nat) (h1 : n + 1 ≤ hi) (h2 : plainQ c = true) : allQ lo hi n (c :: l) = allQ lo hi (n + 1) l := by
 unfold allQ
 rw [List.all_cons, h2, List.length_cons, show n + (l.length + 1) = n + 1 + l.length by omega]
 simp
theorem allQ_long (lo hi n c : Nat) (l : List Nat) (h1 : ¬ n + 1 ≤ hi) : allQ lo hi n (c :: l) = false := by
 unfold allQ
 have : ¬ n + (c :: l).length ≤ hi := by rw [List.length_cons]; omega
 rw [decide_eq_false this]
 simp
theorem allQ_bad (lo hi n c : Nat) (l : List Nat) (h2 : plainQ c = false) : allQ lo hi n (c :: l) = false := by
 unfold allQ
 rw [List.all_cons, h2]
 simp

theorem plain_spec (c : Nat) (S : Store) : PRet Tryz.prog 121 [.int .i32 c] S (.bool (plainQ c)) := by
 intro K hK
 refine pcalls_of (C := C) (fun _ => false) (fun _ => false) Tryz.func121 rfl rfl (by simp [Tryz.f121]) ?_
 unfold plainQ at hK
 by_cases h1 : (32 : Int) ≤ c
 ·have n1 : 32 ≤ c := by omega
  by_cases h2 : c = 127
  ·subst h2
   have d2 : (((127 : Nat) : Int) != 127) = false := rfl
   simp -implicitDefEqProofs only [go_sem, ↓reduceIte, Nat.reduceEqDiff, Nat.reduceLT, Nat.reduceLeDiff, Nat.reduceAdd, Nat.reduceMul, Nat.reduceSub, reduceCtorEq, Nat.reduceMod, Nat.reduceBEq, Int.reduceBEq, Int.reduceBNe, Int.reduceToNat, Tryz.f121, h1, d2]
   exact ⟨S, fun _ _ h => h, hK⟩
  ·have d2 : ((c : Int) != 127) = true := by simp; omega
   by_cases h3 : c = 65533
   ·subst h3
    have d3 : (((65533 : Nat) : Int) != 65533) = false := rfl
    simp -implicitDefEqProofs only [go_sem, ↓reduceIte, Nat.reduceEqDiff, Nat.reduceLT, Nat.reduceLeDiff, Nat.reduceAdd, Nat.reduceMul, Nat.reduceSub, reduceCtorEq, Nat.reduceMod, Nat.reduceBEq, Int.reduceBEq, Int.reduceBNe, Int.reduceToNat, Tryz.f121, h1, d2, d3]
    exact ⟨S, fun _ _ h => h, hK⟩
   ·have d3 : ((c : Int) != 65533) = true := by simp; omega
    simp -implicitDefEqProofs only [go_sem, ↓reduceIte, Nat.reduceEqDiff, Nat.reduceLT, Nat.reduceLeDiff, Nat.reduceAdd, Nat.reduceMul, Nat.reduceSub, reduceCtorEq, Nat.reduceMod, Nat.reduceBEq, Int.reduceBEq, Int.reduceBNe, Int.reduceToNat, Tryz.f121, h1, d2, d3]
    simp only [n1, h2, h3, decide_true, ne_eq, not_false_eq_true, Bool.and_self] at hK
    exact ⟨S, fun _ _ h => h, hK⟩
 ·have n1 : ¬ 32 ≤ c := by omega
  simp -implicitDefEqProofs only [go_sem, ↓reduceIte, Nat.reduceEqDiff, Nat.reduceLT, Nat.reduceLeDiff, Nat.reduceAdd, Nat.reduceMul, Nat.reduceSub, reduceCtorEq, Nat.reduceMod, Nat.reduceBEq, Int.reduceBEq, Int.reduceBNe, Int.reduceToNat, Tryz.f121, h1]
  simp only [n1, decide_false, Bool.false_and] at hK
  exact ⟨S, fun _ _ h => h, hK⟩
theorem all_spec (s : ByteArray) (lo hi : Nat) (hhi : hi ≤ 1000) (hlo : lo ≤ 1000) (S : Store) : PRet Tryz.prog 88 [.str s, .int .i64 lo, .int .i64 hi, .fn (.func 121) [] []] S (.bool (allQ lo hi 0 (runes s 0))) := by
 intro K hK
 refine pcalls_of (C := C) (fun _ => false) (fun _ => false) Tryz.func88 rfl rfl (by simp [Tryz.f88]) ?_
 simp -implicitDefEqProofs only [go_sem, ↓reduceIte, Nat.reduceEqDiff, Nat.reduceLT, Nat.reduceLeDiff, Nat.reduceAdd, Nat.reduceMul, Nat.reduceSub, reduceCtorEq, Nat.reduceMod, Nat.reduceBEq, Int.reduceBEq, Int.reduceBNe, Int.reduceToNat, Tryz.f88]
 intro b
 refine vloop (fun e S' => S' = S ∧ ∃ n pos : Nat, n ≤ hi ∧ allQ lo hi 0 (runes s 0) = allQ lo hi n (runes s pos) ∧ e 1 = .int .i64 lo ∧ e 2 = .int .i64 hi ∧ e 3 = .fn (.func 121) [] [] ∧ e 9 = .int .i64 n ∧ e 13 = .siter b s pos) (fun e _ => match e 13 with | .siter _ _ pos => s.size - pos | _ => 0) ?_ ?_
 ·exact ⟨rfl, 0, 0, Nat.zero_le _, rfl, rfl, rfl, rfl, rfl, rfl⟩
 ·rintro J M Q' hJ hM hQ e S' ⟨rfl, n, pos, hn, hr, e1, e2, e3, e9, e13⟩
  by_cases hlt : pos < s.size
  ·have hd := decode_pos s pos
   have hw : IntKind.i64.wrap ((n : Int) + 1) = ((n + 1 : Nat) : Int) := wrap64 (by omega) (by omega)
   rw [runes_lt hlt] at hr
   by_cases h1 : n + 1 ≤ hi
   ·have d1 : ¬ (hi : Int) < ((n + 1 : Nat) : Int) := by omega
    simp -implicitDefEqProofs only [go_sem, ↓reduceIte, Nat.reduceEqDiff, Nat.reduceLT, Nat.reduceLeDiff, Nat.reduceAdd, Nat.reduceMul, Nat.reduceSub, reduceCtorEq, Nat.reduceMod, Nat.reduceBEq, Int.reduceBEq, Int.reduceBNe, Int.reduceToNat, e13, hlt, e1, e2, e3, e9, hw, d1]
    refine plain_spec _ _ _ ?_
    cases h2 : plainQ (Utf8.decode s pos).1
    ·rw [allQ_bad _ _ _ _ _ h2] at hr
     rw [hr] at hK
     simp -implicitDefEqProofs only [go_sem, ↓reduceIte, Nat.reduceEqDiff, Nat.reduceLT, Nat.reduceLeDiff, Nat.reduceAdd, Nat.reduceMul, Nat.reduceSub, reduceCtorEq, Nat.reduceMod, Nat.reduceBEq, Int.reduceBEq, Int.reduceBNe, Int.reduceToNat]
     refine hQ _ _ _ ?_
     simp -implicitDefEqProofs only [go_sem, ↓reduceIte, Nat.reduceEqDiff, Nat.reduceLT, Nat.reduceLeDiff, Nat.reduceAdd, Nat.reduceMul, Nat.reduceSub, reduceCtorEq, Nat.reduceMod, Nat.reduceBEq, Int.reduceBEq, Int.reduceBNe, Int.reduceToNat]
     exact ⟨S', fun _ _ h => h, hK⟩
    ·rw [allQ_cons _ _ _ _ _ h1 h2] at hr
     simp -implicitDefEqProofs only [go_sem, ↓reduceIte, Nat.reduceEqDiff, Nat.reduceLT, Nat.reduceLeDiff, Nat.reduceAdd, Nat.reduceMul, Nat.reduceSub, reduceCtorEq, Nat.reduceMod, Nat.reduceBEq, Int.reduceBEq, Int.reduceBNe, Int.reduceToNat]
     refine vnext hJ hM S' (fun _ _ h => h) ⟨rfl, n + 1, pos + (Utf8.decode s pos).2, h1, hr, ?_, ?_, ?_, ?_, ?_⟩ ?_
     ·simp -implicitDefEqProofs only [go_sem, ↓reduceIte, Nat.reduceEqDiff, e1]
     ·simp -implicitDefEqProofs only [go_sem, ↓reduceIte, Nat.reduceEqDiff, e2]
     ·simp -implicitDefEqProofs only [go_sem, ↓reduceIte, Nat.reduceEqDiff, e3]
     ·simp -implicitDefEqProofs only [go_sem, ↓reduceIte, Nat.reduceEqDiff]
     ·simp -implicitDefEqProofs only [go_sem, ↓reduceIte, Nat.reduceEqDiff]
     ·simp -implicitDefEqProofs only [go_sem, ↓reduceIte, Nat.reduceEqDiff, e13]
      omega
   ·have d1 : (hi : Int) < ((n + 1 : Nat) : Int) := by omega
    rw [allQ_long _ _ _ _ _ h1] at hr
    rw [hr] at hK
    simp -implicitDefEqProofs only [go_sem, ↓reduceIte, Nat.reduceEqDiff, Nat.reduceLT, Nat.reduceLeDiff, Nat.reduceAdd, Nat.reduceMul, Nat.reduceSub, reduceCtorEq, Nat.reduceMod, Nat.reduceBEq, Int.reduceBEq, Int.reduceBNe, Int.reduceToNat, e13, hlt, e1, e2, e3, e9, hw, d1]
    refine hQ _ _ _ ?_
    simp -implicitDefEqProofs only [go_sem, ↓reduceIte, Nat.reduceEqDiff, Nat.reduceLT, Nat.reduceLeDiff, Nat.reduceAdd, Nat.reduceMul, Nat.reduceSub, reduceCtorEq, Nat.reduceMod, Nat.reduceBEq, Int.reduceBEq, Int.reduceBNe, Int.reduceToNat]
    exact ⟨S', fun _ _ h => h, hK⟩
  ·rw [runes_ge hlt, allQ_nil _ _ _ hn] at hr
   rw [hr] at hK
   have hd : decide ((lo : Int) ≤ n) = decide (lo ≤ n) := by
    by_cases h : lo ≤ n
    ·have : (lo : Int) ≤ n := by omega
     simp [h, this]
    ·have : ¬ (lo : Int) ≤ n := by omega
     simp [h, this]
   simp -implicitDefEqProofs only [go_sem, ↓reduceIte, Nat.reduceEqDiff, Nat.reduceLT, Nat.reduceLeDiff, Nat.reduceAdd, Nat.reduceMul, Nat.reduceSub, reduceCtorEq, Nat.reduceMod, Nat.reduceBEq, Int.reduceBEq, Int.reduceBNe, Int.reduceToNat, e13, hlt]
   refine hQ _ _ _ ?_
   simp -implicitDefEqProofs only [go_sem, ↓reduceIte, Nat.reduceEqDiff, Nat.reduceLT, Nat.reduceLeDiff, Nat.reduceAdd, Nat.reduceMul, Nat.reduceSub, reduceCtorEq, Nat.reduceMod, Nat.reduceBEq, Int.reduceBEq, Int.reduceBNe, Int.reduceToNat, e1, e9, hd]
   exact ⟨S', fun _ _ h => h, hK⟩

def keyQ (s : ByteArray) : Bool := allQ 1 24 0 (runes s 0)
def valQ (s : ByteArray) : Bool := allQ 0 48 0 (runes s 0)
theorem key_spec (s : ByteArray) (S : Store) : PRet Tryz.prog 110 [.str s] S (.int .i64 (if keyQ s then 0 else 20)) := by
 intro K hK
 refine pcalls_of (C := C) (fun _ => false) (fun _ => false) Tryz.func110 rfl rfl (by simp [Tryz.f110]) ?_
 simp -implicitDefEqProofs only [go_sem, ↓reduceIte, Nat.reduceEqDiff, Nat.reduceLT, Nat.reduceLeDiff, Nat.reduceAdd, Nat.reduceMul, Nat.reduceSub, reduceCtorEq, Nat.reduceMod, Nat.reduceBEq, Int.reduceBEq, Int.reduceBNe, Int.reduceToNat, Tryz.f110]
 refine all_spec s 1 24 (by decide) (by decide) _ _ ?_
 unfold keyQ at hK
 cases h : allQ 1 24 0 (runes s 0) <;> rw [h] at hK <;> (simp -implicitDefEqProofs only [go_sem, ↓reduceIte, Nat.reduceEqDiff, Nat.reduceLT, Nat.reduceLeDiff, Nat.reduceAdd, Nat.reduceMul, Nat.reduceSub, reduceCtorEq, Nat.reduceMod, Nat.reduceBEq, Int.reduceBEq, Int.reduceBNe, Int.reduceToNat]; exact ⟨S, fun _ _ h => h, hK⟩)
theorem val_spec (s : ByteArray) (S : Store) : PRet Tryz.prog 111 [.str s] S (.int .i64 (if valQ s then 0 else 21)) := by
 intro K hK
 refine pcalls_of (C := C) (fun _ => false) (fun _ => false) Tryz.func111 rfl rfl (by simp [Tryz.f111]) ?_
 simp -implicitDefEqProofs only [go_sem, ↓reduceIte, Nat.reduceEqDiff, Nat.reduceLT, Nat.reduceLeDiff, Nat.reduceAdd, Nat.reduceMul, Nat.reduceSub, reduceCtorEq, Nat.reduceMod, Nat.reduceBEq, Int.reduceBEq, Int.reduceBNe, Int.reduceToNat, Tryz.f111]
 refine all_spec s 0 48 (by decide) (by decide) _ _ ?_
 unfold valQ at hK
 cases h : allQ 0 48 0 (runes s 0) <;> rw [h] at hK <;> (simp -implicitDefEqProofs only [go_sem, ↓reduceIte, Nat.reduceEqDiff, Nat.reduceLT, Nat.reduceLeDiff, Nat.reduceAdd, Nat.reduceMul, Nat.reduceSub, reduceCtorEq, Nat.reduceMod, Nat.reduceBEq, Int.reduceBEq, Int.reduceBNe, Int.reduceToNat]; exact ⟨S, fun _ _ h => h, hK⟩)

end Go.Proofs.YtdioedabjaaboaaGreat.V
