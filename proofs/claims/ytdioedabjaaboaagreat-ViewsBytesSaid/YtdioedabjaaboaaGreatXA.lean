/- Views: texts: names, parts, fields, numbers. -/
import Derived.Test.YtdioedabjaaboaaGreatKJ
set_option linter.unusedVariables false
set_option linter.unusedSimpArgs false
namespace Go.Proofs.YtdioedabjaaboaaGreat.V
open Go Go.VL

def letterQ (c : Nat) : Bool := decide (97 ≤ c) && decide (c ≤ 122)
theorem letter_spec (c : Nat) (S : Store) : PRet Tryz.prog 89 [.int .i32 c] S (.bool (letterQ c)) := by
 intro K hK
 refine pcalls_of (C := C) (fun _ => false) (fun _ => false) Tryz.func89 rfl rfl (by simp [Tryz.f89]) ?_
 unfold letterQ at hK
 have hd : decide ((c : Int) ≤ 122) = decide (c ≤ 122) := by
  by_cases h : c ≤ 122
  ·have : (c : Int) ≤ 122 := by omega
   simp [h, this]
  ·have : ¬ (c : Int) ≤ 122 := by omega
   simp [h, this]
 by_cases h1 : (97 : Int) ≤ c
 ·have n1 : 97 ≤ c := by omega
  simp -implicitDefEqProofs only [go_sem, ↓reduceIte, Nat.reduceEqDiff, Nat.reduceLT, Nat.reduceLeDiff, Nat.reduceAdd, Nat.reduceMul, Nat.reduceSub, reduceCtorEq, Nat.reduceMod, Nat.reduceBEq, Int.reduceBEq, Int.reduceBNe, Int.reduceToNat, Tryz.f89, ge_iff_le, h1, hd]
  simp only [n1, decide_true, Bool.true_and] at hK
  exact ⟨S, fun _ _ h => h, hK⟩
 ·have n1 : ¬ 97 ≤ c := by omega
  simp -implicitDefEqProofs only [go_sem, ↓reduceIte, Nat.reduceEqDiff, Nat.reduceLT, Nat.reduceLeDiff, Nat.reduceAdd, Nat.reduceMul, Nat.reduceSub, reduceCtorEq, Nat.reduceMod, Nat.reduceBEq, Int.reduceBEq, Int.reduceBNe, Int.reduceToNat, Tryz.f89, ge_iff_le, h1]
  simp only [n1, decide_false, Bool.false_and] at hK
  exact ⟨S, fun _ _ h => h, hK⟩
def allP (p : Nat → Bool) (lo hi n : Nat) (l : List Nat) : Bool := decide (lo ≤ n + l.length) && (decide (n + l.length ≤ hi) && l.all p)
theorem allP_nil (p : Nat → Bool) (lo hi n : Nat) (h : n ≤ hi) : allP p lo hi n [] = decide (lo ≤ n) := by simp [allP, h]
theorem allP_cons (p : Nat → Bool) (lo hi n c : Nat) (l : List Nat) (h1 : n + 1 ≤ hi) (h2 : p c = true) : allP p lo hi n (c :: l) = allP p lo hi (n + 1) l := by
 unfold allP
 rw [List.all_cons, h2, List.length_cons, show n + (l.length + 1) = n + 1 + l.length by omega]
 simp
theorem allP_long (p : Nat → Bool) (lo hi n c : Nat) (l : List Nat) (h1 : ¬ n + 1 ≤ hi) : allP p lo hi n (c :: l) = false := by
 unfold allP
 have : ¬ n + (c :: l).length ≤ hi := by rw [List.length_cons]; omega
 rw [decide_eq_false this]
 simp
theorem allP_bad (p : Nat → Bool) (lo hi n c : Nat) (l : List Nat) (h2 : p c = false) : allP p lo hi n (c :: l) = false := by
 unfold allP
 rw [List.all_cons, h2]
 simp
theorem allL_spec (s : ByteArray) (lo hi : Nat) (hhi : hi ≤ 1000) (hlo : lo ≤ 1000) (S : Store) : PRet Tryz.prog 88 [.str s, .int .i64 lo, .int .i64 hi, .fn (.func 89) [] []] S (.bool (allP letterQ lo hi 0 (runes s 0))) := by
 intro K hK
 refine pcalls_of (C := C) (fun _ => false) (fun _ => false) Tryz.func88 rfl rfl (by simp [Tryz.f88]) ?_
 simp -implicitDefEqProofs only [go_sem, ↓reduceIte, Nat.reduceEqDiff, Nat.reduceLT, Nat.reduceLeDiff, Nat.reduceAdd, Nat.reduceMul, Nat.reduceSub, reduceCtorEq, Nat.reduceMod, Nat.reduceBEq, Int.reduceBEq, Int.reduceBNe, Int.reduceToNat, Tryz.f88]
 intro b
 refine vloop (fun e S' => S' = S ∧ ∃ n pos : Nat, n ≤ hi ∧ allP letterQ lo hi 0 (runes s 0) = allP letterQ lo hi n (runes s pos) ∧ e 1 = .int .i64 lo ∧ e 2 = .int .i64 hi ∧ e 3 = .fn (.func 89) [] [] ∧ e 9 = .int .i64 n ∧ e 13 = .siter b s pos) (fun e _ => match e 13 with | .siter _ _ pos => s.size - pos | _ => 0) ?_ ?_
 ·exact ⟨rfl, 0, 0, Nat.zero_le _, rfl, rfl, rfl, rfl, rfl, rfl⟩
 ·rintro J M Q' hJ hM hQ e S' ⟨rfl, n, pos, hn, hr, e1, e2, e3, e9, e13⟩
  by_cases hlt : pos < s.size
  ·have hd := decode_pos s pos
   have hw : IntKind.i64.wrap ((n : Int) + 1) = ((n + 1 : Nat) : Int) := wrap64 (by omega) (by omega)
   rw [runes_lt hlt] at hr
   by_cases h1 : n + 1 ≤ hi
   ·have d1 : ¬ (hi : Int) < ((n + 1 : Nat) : Int) := by omega
    simp -implicitDefEqProofs only [go_sem, ↓reduceIte, Nat.reduceEqDiff, Nat.reduceLT, Nat.reduceLeDiff, Nat.reduceAdd, Nat.reduceMul, Nat.reduceSub, reduceCtorEq, Nat.reduceMod, Nat.reduceBEq, Int.reduceBEq, Int.reduceBNe, Int.reduceToNat, e13, hlt, e1, e2, e3, e9, hw, d1]
    refine letter_spec _ _ _ ?_
    cases h2 : letterQ (Utf8.decode s pos).1
    ·rw [allP_bad _ _ _ _ _ _ h2] at hr
     rw [hr] at hK
     simp -implicitDefEqProofs only [go_sem, ↓reduceIte, Nat.reduceEqDiff, Nat.reduceLT, Nat.reduceLeDiff, Nat.reduceAdd, Nat.reduceMul, Nat.reduceSub, reduceCtorEq, Nat.reduceMod, Nat.reduceBEq, Int.reduceBEq, Int.reduceBNe, Int.reduceToNat]
     refine hQ _ _ _ ?_
     simp -implicitDefEqProofs only [go_sem, ↓reduceIte, Nat.reduceEqDiff, Nat.reduceLT, Nat.reduceLeDiff, Nat.reduceAdd, Nat.reduceMul, Nat.reduceSub, reduceCtorEq, Nat.reduceMod, Nat.reduceBEq, Int.reduceBEq, Int.reduceBNe, Int.reduceToNat]
     exact ⟨S', fun _ _ h => h, hK⟩
    ·rw [allP_cons _ _ _ _ _ _ h1 h2] at hr
     simp -implicitDefEqProofs only [go_sem, ↓reduceIte, Nat.reduceEqDiff, Nat.reduceLT, Nat.reduceLeDiff, Nat.reduceAdd, Nat.reduceMul, Nat.reduceSub, reduceCtorEq, Nat.reduceMod, Nat.reduceBEq, Int.reduceBEq, Int.reduceBNe, Int.reduceToNat]
     refine vnext hJ hM S' (fun _ _ h => h) ⟨rfl, n + 1, pos + (Utf8.decode s pos).2, h1, hr, ?_, ?_, ?_, ?_, ?_⟩ ?_
     ·simp -implicitDefEqProofs only [go_sem, ↓reduceIte, Nat.reduceEqDiff, e1]
     ·simp -implicitDefEqProofs only [go_sem, ↓reduceIte, Nat.reduceEqDiff, e2]
     ·simp -implicitDefEqProofs only [go_sem, ↓reduceIte, Nat.reduceEqDiff, e3]
     ·simp -implicitDefEqProofs only [go_sem, ↓reduceIte, Nat.reduceEqDiff]
     ·simp -implicitDefEqProofs only [go_sem, ↓reduceIte, Nat.reduceEqDiff]
     ·simp -implicitDefEqProofs only [go_sem, ↓reduceIte, Nat.reduceEqDiff, e13]
      omega
   ·have d1 : (hi : Int) < ((n + 1 : Nat) : Int) := by omega
    rw [allP_long _ _ _ _ _ _ h1] at hr
    rw [hr] at hK
    simp -implicitDefEqProofs only [go_sem, ↓reduceIte, Nat.reduceEqDiff, Nat.reduceLT, Nat.reduceLeDiff, Nat.reduceAdd, Nat.reduceMul, Nat.reduceSub, reduceCtorEq, Nat.reduceMod, Nat.reduceBEq, Int.reduceBEq, Int.reduceBNe, Int.reduceToNat, e13, hlt, e1, e2, e3, e9, hw, d1]
    refine hQ _ _ _ ?_
    simp -implicitDefEqProofs only [go_sem, ↓reduceIte, Nat.reduceEqDiff, Nat.reduceLT, Nat.reduceLeDiff, Nat.reduceAdd, Nat.reduceMul, Nat.reduceSub, reduceCtorEq, Nat.reduceMod, Nat.reduceBEq, Int.reduceBEq, Int.reduceBNe, Int.reduceToNat]
    exact ⟨S', fun _ _ h => h, hK⟩
  ·rw [runes_ge hlt, allP_nil _ _ _ _ hn] at hr
   rw [hr] at hK
   have hd : decide ((lo : Int) ≤ n) = decide (lo ≤ n) := by
    by_cases h : lo ≤ n
    ·have : (lo : Int) ≤ n := by omega
     simp [h, this]
    ·have : ¬ (lo : Int) ≤ n := by omega
     simp [h, this]
   simp -implicitDefEqProofs only [go_sem, ↓reduceIte, Nat.reduceEqDiff, Nat.reduceLT, Nat.reduceLeDiff, Nat.reduceAdd, Nat.reduceMul, Nat.reduceSub, reduceCtorEq, Nat.reduceMod, Nat.reduceBEq, Int.reduceBEq, Int.reduceBNe, Int.reduceToNat, e13, hlt]
   refine hQ _ _ _ ?_
   simp -implicitDefEqProofs only [go_sem, ↓reduceIte, Nat.reduceEqDiff, Nat.reduceLT, Nat.reduceLeDiff, Nat.reduceAdd, Nat.reduceMul, Nat.reduceSub, reduceCtorEq, Nat.reduceMod, Nat.reduceBEq, Int.reduceBEq, Int.reduceBNe, Int.reduceToNat, e1, e9, hd]
   exact ⟨S', fun _ _ h => h, hK⟩
def nameQ (s : ByteArray) : Bool := allP letterQ 1 8 0 (runes s 0)
theorem name_spec (s : ByteArray) (S : Store) : PRet Tryz.prog 55 [.str s] S (.int .i64 (if nameQ s then 0 else 22)) := by
 intro K hK
 refine pcalls_of (C := C) (fun _ => false) (fun _ => false) Tryz.func55 rfl rfl (by simp [Tryz.f55]) ?_
 simp -implicitDefEqProofs only [go_sem, ↓reduceIte, Nat.reduceEqDiff, Nat.reduceLT, Nat.reduceLeDiff, Nat.reduceAdd, Nat.reduceMul, Nat.reduceSub, reduceCtorEq, Nat.reduceMod, Nat.reduceBEq, Int.reduceBEq, Int.reduceBNe, Int.reduceToNat, Tryz.f55]
 refine allL_spec s 1 8 (by decide) (by decide) _ _ ?_
 unfold nameQ at hK
 cases h : allP letterQ 1 8 0 (runes s 0) <;> rw [h] at hK <;> (simp -implicitDefEqProofs only [go_sem, ↓reduceIte, Nat.reduceEqDiff, Nat.reduceLT, Nat.reduceLeDiff, Nat.reduceAdd, Nat.reduceMul, Nat.reduceSub, reduceCtorEq, Nat.reduceMod, Nat.reduceBEq, Int.reduceBEq, Int.reduceBNe, Int.reduceToNat]; exact ⟨S, fun _ _ h => h, hK⟩)

/-! ### parts -/
def encS (l : List ByteArray) : List (List PV) := l.map fun s => [PV.str s]
@[go_sem] theorem len_encS (l : List ByteArray) : (encS l).length = l.length := by simp [encS]
theorem encS_one (l : List ByteArray) (s : ByteArray) : encS l ++ [[.str s]] = encS (l ++ [s]) := by simp [encS]
theorem getD_encS {l : List ByteArray} {k : Nat} {s : ByteArray} (h : l[k]? = some s) : (encS l).getD k [] = [.str s] := by
 simp [encS, List.getD_eq_getElem?_getD, h]
def partsL (s : ByteArray) (by_ : Nat) (pos frm : Nat) (cut : Bool) (out : List ByteArray) : List ByteArray :=
 if h : pos < s.size then
  if (Utf8.decode s pos).1 = by_ then partsL s by_ (pos + (Utf8.decode s pos).2) (if cut then pos else frm) true (out ++ [s.extract (if cut then pos else frm) pos])
  else partsL s by_ (pos + (Utf8.decode s pos).2) (if cut then pos else frm) false out
 else out ++ [s.extract (if cut then s.size else frm) s.size]
termination_by s.size - pos
decreasing_by all_goals (have := decode_pos s pos; omega)
theorem partsL_eq {s : ByteArray} {by_ pos frm : Nat} {cut : Bool} {out : List ByteArray} (h : pos < s.size) (hc : (Utf8.decode s pos).1 = by_) :
  partsL s by_ pos frm cut out = partsL s by_ (pos + (Utf8.decode s pos).2) (if cut then pos else frm) true (out ++ [s.extract (if cut then pos else frm) pos]) := by rw [partsL, dif_pos h, if_pos hc]
theorem partsL_ne {s : ByteArray} {by_ pos frm : Nat} {cut : Bool} {out : List ByteArray} (h : pos < s.size) (hc : ¬ (Utf8.decode s pos).1 = by_) :
  partsL s by_ pos frm cut out = partsL s by_ (pos + (Utf8.decode s pos).2) (if cut then pos else frm) false out := by rw [partsL, dif_pos h, if_neg hc]
theorem partsL_end {s : ByteArray} {by_ pos frm : Nat} {cut : Bool} {out : List ByteArray} (h : ¬ pos < s.size) :
  partsL s by_ pos frm cut out = out ++ [s.extract (if cut then s.size else frm) s.size] := by rw [partsL, dif_neg h]
def partsF (s : ByteArray) (by_ : Nat) : List ByteArray := partsL s by_ 0 0 false []
theorem ieq {a b : Nat} (h : a = b) : (((a : Nat) : Int) == ((b : Nat) : Int)) = true := by simp [h]
theorem ine {a b : Nat} (h : ¬ a = b) : (((a : Nat) : Int) == ((b : Nat) : Int)) = false := by simp; omega
theorem Parts_spec (s : ByteArray) (hs : s.size ≤ 1000000) (by_ : Nat) (S : Store) : PRet Tryz.prog 113 [.str s, .int .i32 (by_ : Int)] S (.sl .tail 1 (encS (partsF s by_))) := by
 intro K hK
 refine pcalls_of (C := C) (fun d => d == 5 || d == 21 || d == 31 || d == 4) (fun _ => false) Tryz.func113 rfl rfl (by simp [Tryz.f113]) ?_
 simp -implicitDefEqProofs only [go_sem, ↓reduceIte, Nat.reduceEqDiff, Nat.reduceLT, Nat.reduceLeDiff, Nat.reduceAdd, Nat.reduceMul, Nat.reduceSub, reduceCtorEq, Nat.reduceMod, Nat.reduceBEq, Int.reduceBEq, Int.reduceBNe, Int.reduceToNat, Tryz.f113]
 intro b
 refine vloop (fun e S' => S' = S ∧ ∃ (pos frm : Nat) (cut : Bool) (out : List ByteArray), partsF s by_ = partsL s by_ pos frm cut out ∧ frm ≤ pos ∧ frm ≤ s.size ∧ out.length ≤ pos ∧ out.length ≤ s.size ∧ e 0 = .str s ∧ e 1 = .int .i32 (by_ : Int) ∧ e 5 = .sl .tail 1 (encS out) ∧ e 6 = .int .i64 frm ∧ e 7 = .bool cut ∧ e 11 = .siter b s pos) (fun e _ => match e 11 with | .siter _ _ pos => s.size - pos | _ => 0) ?_ ?_
 ·exact ⟨rfl, 0, 0, false, [], rfl, Nat.le_refl _, Nat.zero_le _, Nat.le_refl _, Nat.zero_le _, rfl, rfl, rfl, rfl, rfl, rfl⟩
 ·rintro J M Q' hJ hM hQ e S' ⟨rfl, pos, frm, cut, out, hr, hf, hz, ho, hoz, e0, e1, e5, e6, e7, e11⟩
  by_cases hlt : pos < s.size
  ·have hd := decode_pos s pos
   by_cases hc : (Utf8.decode s pos).1 = by_
   ·rw [partsL_eq hlt hc] at hr
    have hap : (out.length + 1) * 16 ≤ 140737488355328 ∧ out.length + 1 ≤ 140737488355328 := by omega
    have hi1 : (0 : Int) ≤ (pos : Int) ∧ (pos : Int) ≤ pos ∧ (pos : Int) ≤ (s.size : Int) := by omega
    have hi2 : (0 : Int) ≤ (frm : Int) ∧ (frm : Int) ≤ pos ∧ (pos : Int) ≤ (s.size : Int) := by omega
    cases cut <;> (simp -implicitDefEqProofs only [go_sem, ↓reduceIte, Nat.reduceEqDiff, Nat.reduceLT, Nat.reduceLeDiff, Nat.reduceAdd, Nat.reduceMul, Nat.reduceSub, reduceCtorEq, Nat.reduceMod, Nat.reduceBEq, Int.reduceBEq, Int.reduceBNe, Int.reduceToNat, e11, hlt, e0, e1, e5, e6, e7, ieq hc, hap, hi1, hi2, Int.toNat_natCast]; skip)
    ·refine vnext hJ hM S' (fun _ _ h => h) ⟨rfl, pos + (Utf8.decode s pos).2, frm, true, out ++ [s.extract frm pos], hr, by omega, hz, ?_, ?_, ?_, ?_, ?_, ?_, ?_, ?_⟩ ?_
     ·rw [List.length_append]; simp only [List.length_cons, List.length_nil]; omega
     ·rw [List.length_append]; simp only [List.length_cons, List.length_nil]; omega
     ·simp -implicitDefEqProofs only [go_sem, ↓reduceIte, Nat.reduceEqDiff, e0]
     ·simp -implicitDefEqProofs only [go_sem, ↓reduceIte, Nat.reduceEqDiff, e1]
     ·simp -implicitDefEqProofs only [go_sem, ↓reduceIte, Nat.reduceEqDiff]; rw [encS_one]
     ·simp -implicitDefEqProofs only [go_sem, ↓reduceIte, Nat.reduceEqDiff, e6]
     ·simp -implicitDefEqProofs only [go_sem, ↓reduceIte, Nat.reduceEqDiff]
     ·simp -implicitDefEqProofs only [go_sem, ↓reduceIte, Nat.reduceEqDiff]
     ·simp -implicitDefEqProofs only [go_sem, ↓reduceIte, Nat.reduceEqDiff, e11]
      omega
    ·refine vnext hJ hM S' (fun _ _ h => h) ⟨rfl, pos + (Utf8.decode s pos).2, pos, true, out ++ [s.extract pos pos], hr, by omega, by omega, ?_, ?_, ?_, ?_, ?_, ?_, ?_, ?_⟩ ?_
     ·rw [List.length_append]; simp only [List.length_cons, List.length_nil]; omega
     ·rw [List.length_append]; simp only [List.length_cons, List.length_nil]; omega
     ·simp -implicitDefEqProofs only [go_sem, ↓reduceIte, Nat.reduceEqDiff, e0]
     ·simp -implicitDefEqProofs only [go_sem, ↓reduceIte, Nat.reduceEqDiff, e1]
     ·simp -implicitDefEqProofs only [go_sem, ↓reduceIte, Nat.reduceEqDiff]; rw [encS_one]
     ·simp -implicitDefEqProofs only [go_sem, ↓reduceIte, Nat.reduceEqDiff, e6]
     ·simp -implicitDefEqProofs only [go_sem, ↓reduceIte, Nat.reduceEqDiff]
     ·simp -implicitDefEqProofs only [go_sem, ↓reduceIte, Nat.reduceEqDiff]
     ·simp -implicitDefEqProofs only [go_sem, ↓reduceIte, Nat.reduceEqDiff, e11]
      omega
   ·rw [partsL_ne hlt hc] at hr
    cases cut <;> (simp -implicitDefEqProofs only [go_sem, ↓reduceIte, Nat.reduceEqDiff, Nat.reduceLT, Nat.reduceLeDiff, Nat.reduceAdd, Nat.reduceMul, Nat.reduceSub, reduceCtorEq, Nat.reduceMod, Nat.reduceBEq, Int.reduceBEq, Int.reduceBNe, Int.reduceToNat, e11, hlt, e0, e1, e5, e6, e7, ine hc]; skip)
    ·refine vnext hJ hM S' (fun _ _ h => h) ⟨rfl, pos + (Utf8.decode s pos).2, frm, false, out, hr, by omega, hz, by omega, hoz, ?_, ?_, ?_, ?_, ?_, ?_⟩ ?_
     ·simp -implicitDefEqProofs only [go_sem, ↓reduceIte, Nat.reduceEqDiff, e0]
     ·simp -implicitDefEqProofs only [go_sem, ↓reduceIte, Nat.reduceEqDiff, e1]
     ·simp -implicitDefEqProofs only [go_sem, ↓reduceIte, Nat.reduceEqDiff, e5]
     ·simp -implicitDefEqProofs only [go_sem, ↓reduceIte, Nat.reduceEqDiff, e6]
     ·simp -implicitDefEqProofs only [go_sem, ↓reduceIte, Nat.reduceEqDiff, e7]
     ·simp -implicitDefEqProofs only [go_sem, ↓reduceIte, Nat.reduceEqDiff]
     ·simp -implicitDefEqProofs only [go_sem, ↓reduceIte, Nat.reduceEqDiff, e11]
      omega
    ·refine vnext hJ hM S' (fun _ _ h => h) ⟨rfl, pos + (Utf8.decode s pos).2, pos, false, out, hr, by omega, by omega, by omega, hoz, ?_, ?_, ?_, ?_, ?_, ?_⟩ ?_
     ·simp -implicitDefEqProofs only [go_sem, ↓reduceIte, Nat.reduceEqDiff, e0]
     ·simp -implicitDefEqProofs only [go_sem, ↓reduceIte, Nat.reduceEqDiff, e1]
     ·simp -implicitDefEqProofs only [go_sem, ↓reduceIte, Nat.reduceEqDiff, e5]
     ·simp -implicitDefEqProofs only [go_sem, ↓reduceIte, Nat.reduceEqDiff]
     ·simp -implicitDefEqProofs only [go_sem, ↓reduceIte, Nat.reduceEqDiff]
     ·simp -implicitDefEqProofs only [go_sem, ↓reduceIte, Nat.reduceEqDiff]
     ·simp -implicitDefEqProofs only [go_sem, ↓reduceIte, Nat.reduceEqDiff, e11]
      omega
  ·rw [partsL_end hlt] at hr
   rw [hr] at hK
   have hap : (out.length + 1) * 16 ≤ 140737488355328 ∧ out.length + 1 ≤ 140737488355328 := by omega
   have hi1 : (0 : Int) ≤ (s.size : Int) ∧ (s.size : Int) ≤ s.size := by omega
   have hi2 : (0 : Int) ≤ (frm : Int) ∧ (frm : Int) ≤ s.size := by omega
   simp -implicitDefEqProofs only [go_sem, ↓reduceIte, Nat.reduceEqDiff, Nat.reduceLT, Nat.reduceLeDiff, Nat.reduceAdd, Nat.reduceMul, Nat.reduceSub, reduceCtorEq, Nat.reduceMod, Nat.reduceBEq, Int.reduceBEq, Int.reduceBNe, Int.reduceToNat, e11, hlt]
   refine hQ _ _ _ ?_
   cases cut <;> (simp -implicitDefEqProofs only [go_sem, ↓reduceIte, Nat.reduceEqDiff, Nat.reduceLT, Nat.reduceLeDiff, Nat.reduceAdd, Nat.reduceMul, Nat.reduceSub, reduceCtorEq, Nat.reduceMod, Nat.reduceBEq, Int.reduceBEq, Int.reduceBNe, Int.reduceToNat, e0, e5, e6, e7, hap, hi1, hi2, Int.toNat_natCast, encS_one]; exact ⟨S', fun _ _ h => h, hK⟩)
end Go.Proofs.YtdioedabjaaboaaGreat.V
