/- Maps: texts, rune by rune: keys and values. -/
import Derived.Test.YtmplfmhcpkmpbaaKC
set_option linter.unusedVariables false
set_option linter.unusedSimpArgs false
namespace Go.Proofs.Ytmplfmhcpkmpbaa.V
open Go Go.VL

theorem decode_pos (s : ByteArray) (i : Nat) : 0 < (Utf8.decode s i).2 := by
  unfold Utf8.decode
  dsimp only
  repeat' split
  all_goals simp
def runes (s : ByteArray) (pos : Nat) : List Nat := if h : pos < s.size then (Utf8.decode s pos).1 :: runes s (pos + (Utf8.decode s pos).2) else []
termination_by s.size - pos
decreasing_by have := decode_pos s pos; omega
theorem runes_lt {s : ByteArray} {pos : Nat} (h : pos < s.size) : runes s pos = (Utf8.decode s pos).1 :: runes s (pos + (Utf8.decode s pos).2) := by rw [runes, dif_pos h]
theorem runes_ge {s : ByteArray} {pos : Nat} (h : ¬ pos < s.size) : runes s pos = [] := by rw [runes, dif_neg h]
theorem runes_len (s : ByteArray) : ∀ (n pos : Nat), s.size - pos ≤ n → (runes s pos).length ≤ s.size - pos := by
  intro n
  induction n with
  | zero => intro pos h; rw [runes_ge (by omega)]; simp
  | succ n ih =>
    intro pos h
    by_cases hp : pos < s.size
    · have hd := decode_pos s pos
      have := ih (pos + (Utf8.decode s pos).2) (by omega)
      rw [runes_lt hp, List.length_cons]
      omega
    · rw [runes_ge hp]; simp

def plainQ (c : Nat) : Bool := decide (32 ≤ c) && (decide (c ≠ 127) && decide (c ≠ 65533))
def allQ (lo hi n : Nat) (l : List Nat) : Bool := decide (lo ≤ n + l.length) && (decide (n + l.length ≤ hi) && l.all plainQ)
theorem allQ_nil (lo hi n : Nat) (h : n ≤ hi) : allQ lo hi n [] = decide (lo ≤ n) := by simp [allQ, h]
theorem allQ_cons (lo hi n c : Nat) (l : List Nat) (h1 : n + 1 ≤ hi) (h2 : plainQ c = true) : allQ lo hi n (c :: l) = allQ lo hi (n + 1) l := by
  unfold allQ
  rw [List.all_cons, h2, List.length_cons, show n + (l.length + 1) = n + 1 + l.length by omega]
  simp
theorem allQ_long (lo hi n c : Nat) (l : List Nat) (h1 : ¬ n + 1 ≤ hi) : allQ lo hi n (c :: l) = false := by
  unfold allQ
  have : ¬ n + (c :: l).length ≤ hi := by rw [List.length_cons]; omega
  rw [decide_eq_false this]
  simp
theorem allQ_bad (lo hi n c : Nat) (l : List Nat) (h2 : plainQ c = false) : allQ lo hi n (c :: l) = false := by
  unfold allQ
  rw [List.all_cons, h2]
  simp

theorem plain_spec (c : Nat) (S : Store) : PRet Try.prog 88 [.int .i32 c] S (.bool (plainQ c)) := by
  intro K hK
  refine pcalls_of (C := C) (fun _ => false) (fun _ => false) Try.func88 rfl rfl (by simp [Try.f88]) ?_
  unfold plainQ at hK
  by_cases h1 : (32 : Int) ≤ c
  · have n1 : 32 ≤ c := by omega
    by_cases h2 : c = 127
    · subst h2
      have d2 : (((127 : Nat) : Int) != 127) = false := rfl
      simp -implicitDefEqProofs only [go_sem, ↓reduceIte, Nat.reduceEqDiff, Nat.reduceLT, Nat.reduceLeDiff, Nat.reduceAdd, Nat.reduceMul, Nat.reduceSub, reduceCtorEq, Nat.reduceMod, Nat.reduceBEq, Int.reduceBEq, Int.reduceBNe, Int.reduceToNat, Try.f88, h1, d2]
      exact ⟨S, fun _ _ h => h, hK⟩
    · have d2 : ((c : Int) != 127) = true := by simp; omega
      by_cases h3 : c = 65533
      · subst h3
        have d3 : (((65533 : Nat) : Int) != 65533) = false := rfl
        simp -implicitDefEqProofs only [go_sem, ↓reduceIte, Nat.reduceEqDiff, Nat.reduceLT, Nat.reduceLeDiff, Nat.reduceAdd, Nat.reduceMul, Nat.reduceSub, reduceCtorEq, Nat.reduceMod, Nat.reduceBEq, Int.reduceBEq, Int.reduceBNe, Int.reduceToNat, Try.f88, h1, d2, d3]
        exact ⟨S, fun _ _ h => h, hK⟩
      · have d3 : ((c : Int) != 65533) = true := by simp; omega
        simp -implicitDefEqProofs only [go_sem, ↓reduceIte, Nat.reduceEqDiff, Nat.reduceLT, Nat.reduceLeDiff, Nat.reduceAdd, Nat.reduceMul, Nat.reduceSub, reduceCtorEq, Nat.reduceMod, Nat.reduceBEq, Int.reduceBEq, Int.reduceBNe, Int.reduceToNat, Try.f88, h1, d2, d3]
        simp only [n1, h2, h3, decide_true, ne_eq, not_false_eq_true, Bool.and_self] at hK
        exact ⟨S, fun _ _ h => h, hK⟩
  · have n1 : ¬ 32 ≤ c := by omega
    simp -implicitDefEqProofs only [go_sem, ↓reduceIte, Nat.reduceEqDiff, Nat.reduceLT, Nat.reduceLeDiff, Nat.reduceAdd, Nat.reduceMul, Nat.reduceSub, reduceCtorEq, Nat.reduceMod, Nat.reduceBEq, Int.reduceBEq, Int.reduceBNe, Int.reduceToNat, Try.f88, h1]
    simp only [n1, decide_false, Bool.false_and] at hK
    exact ⟨S, fun _ _ h => h, hK⟩
theorem rplain_spec (c : Nat) (S : Store) : PRet Try.prog 93 [.int .i32 c] S (.bool (plainQ c)) := by
  intro K hK
  refine pcalls_of (C := C) (fun _ => false) (fun _ => false) Try.func93 rfl rfl (by simp [Try.f93]) ?_
  unfold plainQ at hK
  by_cases h1 : (31 : Int) < c
  · have n1 : 32 ≤ c := by omega
    by_cases h2 : c = 127
    · subst h2
      have d2 : (((127 : Nat) : Int) != 127) = false := rfl
      simp -implicitDefEqProofs only [go_sem, ↓reduceIte, Nat.reduceEqDiff, Nat.reduceLT, Nat.reduceLeDiff, Nat.reduceAdd, Nat.reduceMul, Nat.reduceSub, reduceCtorEq, Nat.reduceMod, Nat.reduceBEq, Int.reduceBEq, Int.reduceBNe, Int.reduceToNat, Try.f93, h1, d2]
      exact ⟨S, fun _ _ h => h, hK⟩
    · have d2 : ((c : Int) != 127) = true := by simp; omega
      by_cases h3 : c = 65533
      · subst h3
        have d3 : (((65533 : Nat) : Int) != 65533) = false := rfl
        simp -implicitDefEqProofs only [go_sem, ↓reduceIte, Nat.reduceEqDiff, Nat.reduceLT, Nat.reduceLeDiff, Nat.reduceAdd, Nat.reduceMul, Nat.reduceSub, reduceCtorEq, Nat.reduceMod, Nat.reduceBEq, Int.reduceBEq, Int.reduceBNe, Int.reduceToNat, Try.f93, h1, d2, d3]
        exact ⟨S, fun _ _ h => h, hK⟩
      · have d3 : ((c : Int) != 65533) = true := by simp; omega
        simp -implicitDefEqProofs only [go_sem, ↓reduceIte, Nat.reduceEqDiff, Nat.reduceLT, Nat.reduceLeDiff, Nat.reduceAdd, Nat.reduceMul, Nat.reduceSub, reduceCtorEq, Nat.reduceMod, Nat.reduceBEq, Int.reduceBEq, Int.reduceBNe, Int.reduceToNat, Try.f93, h1, d2, d3]
        simp only [n1, h2, h3, decide_true, ne_eq, not_false_eq_true, Bool.and_self] at hK
        exact ⟨S, fun _ _ h => h, hK⟩
  · have n1 : ¬ 32 ≤ c := by omega
    simp -implicitDefEqProofs only [go_sem, ↓reduceIte, Nat.reduceEqDiff, Nat.reduceLT, Nat.reduceLeDiff, Nat.reduceAdd, Nat.reduceMul, Nat.reduceSub, reduceCtorEq, Nat.reduceMod, Nat.reduceBEq, Int.reduceBEq, Int.reduceBNe, Int.reduceToNat, Try.f93, h1]
    simp only [n1, decide_false, Bool.false_and] at hK
    exact ⟨S, fun _ _ h => h, hK⟩

theorem all_spec (s : ByteArray) (lo hi : Nat) (hhi : hi ≤ 1000) (hlo : lo ≤ 1000) (S : Store) : PRet Try.prog 87 [.str s, .int .i64 lo, .int .i64 hi, .fn (.func 88) [] []] S (.bool (allQ lo hi 0 (runes s 0))) := by
  intro K hK
  refine pcalls_of (C := C) (fun _ => false) (fun _ => false) Try.func87 rfl rfl (by simp [Try.f87]) ?_
  simp -implicitDefEqProofs only [go_sem, ↓reduceIte, Nat.reduceEqDiff, Nat.reduceLT, Nat.reduceLeDiff, Nat.reduceAdd, Nat.reduceMul, Nat.reduceSub, reduceCtorEq, Nat.reduceMod, Nat.reduceBEq, Int.reduceBEq, Int.reduceBNe, Int.reduceToNat, Try.f87]
  intro b
  refine vloop (fun e S' => S' = S ∧ ∃ n pos : Nat, n ≤ hi ∧ allQ lo hi 0 (runes s 0) = allQ lo hi n (runes s pos) ∧ e 1 = .int .i64 lo ∧ e 2 = .int .i64 hi ∧ e 3 = .fn (.func 88) [] [] ∧ e 9 = .int .i64 n ∧ e 13 = .siter b s pos) (fun e _ => match e 13 with | .siter _ _ pos => s.size - pos | _ => 0) ?_ ?_
  · exact ⟨rfl, 0, 0, Nat.zero_le _, rfl, rfl, rfl, rfl, rfl, rfl⟩
  · rintro J M Q' hJ hM hQ e S' ⟨rfl, n, pos, hn, hr, e1, e2, e3, e9, e13⟩
    by_cases hlt : pos < s.size
    · have hd := decode_pos s pos
      have hw : IntKind.i64.wrap ((n : Int) + 1) = ((n + 1 : Nat) : Int) := wrap64 (by omega) (by omega)
      rw [runes_lt hlt] at hr
      by_cases h1 : n + 1 ≤ hi
      · have d1 : ¬ (hi : Int) < ((n + 1 : Nat) : Int) := by omega
        simp -implicitDefEqProofs only [go_sem, ↓reduceIte, Nat.reduceEqDiff, Nat.reduceLT, Nat.reduceLeDiff, Nat.reduceAdd, Nat.reduceMul, Nat.reduceSub, reduceCtorEq, Nat.reduceMod, Nat.reduceBEq, Int.reduceBEq, Int.reduceBNe, Int.reduceToNat, e13, hlt, e1, e2, e3, e9, hw, d1]
        refine plain_spec _ _ _ ?_
        cases h2 : plainQ (Utf8.decode s pos).1
        · rw [allQ_bad _ _ _ _ _ h2] at hr
          rw [hr] at hK
          simp -implicitDefEqProofs only [go_sem, ↓reduceIte, Nat.reduceEqDiff, Nat.reduceLT, Nat.reduceLeDiff, Nat.reduceAdd, Nat.reduceMul, Nat.reduceSub, reduceCtorEq, Nat.reduceMod, Nat.reduceBEq, Int.reduceBEq, Int.reduceBNe, Int.reduceToNat]
          refine hQ _ _ _ ?_
          simp -implicitDefEqProofs only [go_sem, ↓reduceIte, Nat.reduceEqDiff, Nat.reduceLT, Nat.reduceLeDiff, Nat.reduceAdd, Nat.reduceMul, Nat.reduceSub, reduceCtorEq, Nat.reduceMod, Nat.reduceBEq, Int.reduceBEq, Int.reduceBNe, Int.reduceToNat]
          exact ⟨S', fun _ _ h => h, hK⟩
        · rw [allQ_cons _ _ _ _ _ h1 h2] at hr
          simp -implicitDefEqProofs only [go_sem, ↓reduceIte, Nat.reduceEqDiff, Nat.reduceLT, Nat.reduceLeDiff, Nat.reduceAdd, Nat.reduceMul, Nat.reduceSub, reduceCtorEq, Nat.reduceMod, Nat.reduceBEq, Int.reduceBEq, Int.reduceBNe, Int.reduceToNat]
          refine vnext hJ hM S' (fun _ _ h => h) ⟨rfl, n + 1, pos + (Utf8.decode s pos).2, h1, hr, ?_, ?_, ?_, ?_, ?_⟩ ?_
          · simp -implicitDefEqProofs only [go_sem, ↓reduceIte, Nat.reduceEqDiff, Nat.reduceLT, Nat.reduceLeDiff, Nat.reduceAdd, Nat.reduceMul, Nat.reduceSub, reduceCtorEq, Nat.reduceMod, Nat.reduceBEq, Int.reduceBEq, Int.reduceBNe, Int.reduceToNat, e1]
          · simp -implicitDefEqProofs only [go_sem, ↓reduceIte, Nat.reduceEqDiff, Nat.reduceLT, Nat.reduceLeDiff, Nat.reduceAdd, Nat.reduceMul, Nat.reduceSub, reduceCtorEq, Nat.reduceMod, Nat.reduceBEq, Int.reduceBEq, Int.reduceBNe, Int.reduceToNat, e2]
          · simp -implicitDefEqProofs only [go_sem, ↓reduceIte, Nat.reduceEqDiff, Nat.reduceLT, Nat.reduceLeDiff, Nat.reduceAdd, Nat.reduceMul, Nat.reduceSub, reduceCtorEq, Nat.reduceMod, Nat.reduceBEq, Int.reduceBEq, Int.reduceBNe, Int.reduceToNat, e3]
          · simp -implicitDefEqProofs only [go_sem, ↓reduceIte, Nat.reduceEqDiff, Nat.reduceLT, Nat.reduceLeDiff, Nat.reduceAdd, Nat.reduceMul, Nat.reduceSub, reduceCtorEq, Nat.reduceMod, Nat.reduceBEq, Int.reduceBEq, Int.reduceBNe, Int.reduceToNat]
          · simp -implicitDefEqProofs only [go_sem, ↓reduceIte, Nat.reduceEqDiff, Nat.reduceLT, Nat.reduceLeDiff, Nat.reduceAdd, Nat.reduceMul, Nat.reduceSub, reduceCtorEq, Nat.reduceMod, Nat.reduceBEq, Int.reduceBEq, Int.reduceBNe, Int.reduceToNat]
          · simp -implicitDefEqProofs only [go_sem, ↓reduceIte, Nat.reduceEqDiff, Nat.reduceLT, Nat.reduceLeDiff, Nat.reduceAdd, Nat.reduceMul, Nat.reduceSub, reduceCtorEq, Nat.reduceMod, Nat.reduceBEq, Int.reduceBEq, Int.reduceBNe, Int.reduceToNat, e13]
            omega
      · have d1 : (hi : Int) < ((n + 1 : Nat) : Int) := by omega
        rw [allQ_long _ _ _ _ _ h1] at hr
        rw [hr] at hK
        simp -implicitDefEqProofs only [go_sem, ↓reduceIte, Nat.reduceEqDiff, Nat.reduceLT, Nat.reduceLeDiff, Nat.reduceAdd, Nat.reduceMul, Nat.reduceSub, reduceCtorEq, Nat.reduceMod, Nat.reduceBEq, Int.reduceBEq, Int.reduceBNe, Int.reduceToNat, e13, hlt, e1, e2, e3, e9, hw, d1]
        refine hQ _ _ _ ?_
        simp -implicitDefEqProofs only [go_sem, ↓reduceIte, Nat.reduceEqDiff, Nat.reduceLT, Nat.reduceLeDiff, Nat.reduceAdd, Nat.reduceMul, Nat.reduceSub, reduceCtorEq, Nat.reduceMod, Nat.reduceBEq, Int.reduceBEq, Int.reduceBNe, Int.reduceToNat]
        exact ⟨S', fun _ _ h => h, hK⟩
    · rw [runes_ge hlt, allQ_nil _ _ _ hn] at hr
      rw [hr] at hK
      have hd : decide ((lo : Int) ≤ n) = decide (lo ≤ n) := by
        by_cases h : lo ≤ n
        · have : (lo : Int) ≤ n := by omega
          simp [h, this]
        · have : ¬ (lo : Int) ≤ n := by omega
          simp [h, this]
      simp -implicitDefEqProofs only [go_sem, ↓reduceIte, Nat.reduceEqDiff, Nat.reduceLT, Nat.reduceLeDiff, Nat.reduceAdd, Nat.reduceMul, Nat.reduceSub, reduceCtorEq, Nat.reduceMod, Nat.reduceBEq, Int.reduceBEq, Int.reduceBNe, Int.reduceToNat, e13, hlt]
      refine hQ _ _ _ ?_
      simp -implicitDefEqProofs only [go_sem, ↓reduceIte, Nat.reduceEqDiff, Nat.reduceLT, Nat.reduceLeDiff, Nat.reduceAdd, Nat.reduceMul, Nat.reduceSub, reduceCtorEq, Nat.reduceMod, Nat.reduceBEq, Int.reduceBEq, Int.reduceBNe, Int.reduceToNat, e1, e9, hd]
      exact ⟨S', fun _ _ h => h, hK⟩

def keyQ (s : ByteArray) : Bool := allQ 1 24 0 (runes s 0)
def valQ (s : ByteArray) : Bool := allQ 0 48 0 (runes s 0)
theorem key_spec (s : ByteArray) (S : Store) : PRet Try.prog 73 [.str s] S (.int .i64 (if keyQ s then 0 else 20)) := by
  intro K hK
  refine pcalls_of (C := C) (fun _ => false) (fun _ => false) Try.func73 rfl rfl (by simp [Try.f73]) ?_
  simp -implicitDefEqProofs only [go_sem, ↓reduceIte, Nat.reduceEqDiff, Nat.reduceLT, Nat.reduceLeDiff, Nat.reduceAdd, Nat.reduceMul, Nat.reduceSub, reduceCtorEq, Nat.reduceMod, Nat.reduceBEq, Int.reduceBEq, Int.reduceBNe, Int.reduceToNat, Try.f73]
  refine all_spec s 1 24 (by decide) (by decide) _ _ ?_
  unfold keyQ at hK
  cases h : allQ 1 24 0 (runes s 0) <;> rw [h] at hK <;> (simp -implicitDefEqProofs only [go_sem, ↓reduceIte, Nat.reduceEqDiff, Nat.reduceLT, Nat.reduceLeDiff, Nat.reduceAdd, Nat.reduceMul, Nat.reduceSub, reduceCtorEq, Nat.reduceMod, Nat.reduceBEq, Int.reduceBEq, Int.reduceBNe, Int.reduceToNat]; exact ⟨S, fun _ _ h => h, hK⟩)
theorem val_spec (s : ByteArray) (S : Store) : PRet Try.prog 74 [.str s] S (.int .i64 (if valQ s then 0 else 21)) := by
  intro K hK
  refine pcalls_of (C := C) (fun _ => false) (fun _ => false) Try.func74 rfl rfl (by simp [Try.f74]) ?_
  simp -implicitDefEqProofs only [go_sem, ↓reduceIte, Nat.reduceEqDiff, Nat.reduceLT, Nat.reduceLeDiff, Nat.reduceAdd, Nat.reduceMul, Nat.reduceSub, reduceCtorEq, Nat.reduceMod, Nat.reduceBEq, Int.reduceBEq, Int.reduceBNe, Int.reduceToNat, Try.f74]
  refine all_spec s 0 48 (by decide) (by decide) _ _ ?_
  unfold valQ at hK
  cases h : allQ 0 48 0 (runes s 0) <;> rw [h] at hK <;> (simp -implicitDefEqProofs only [go_sem, ↓reduceIte, Nat.reduceEqDiff, Nat.reduceLT, Nat.reduceLeDiff, Nat.reduceAdd, Nat.reduceMul, Nat.reduceSub, reduceCtorEq, Nat.reduceMod, Nat.reduceBEq, Int.reduceBEq, Int.reduceBNe, Int.reduceToNat]; exact ⟨S, fun _ _ h => h, hK⟩)

/-! ### the document's -/
def encR (l : List Nat) : List (List PV) := l.map fun (c : Nat) => [PV.int .i32 (c : Int)]
@[go_sem] theorem len_encR (l : List Nat) : (encR l).length = l.length := by simp [encR]
theorem encR_one (l : List Nat) (c : Nat) : encR l ++ [[.int .i32 (c : Int)]] = encR (l ++ [c]) := by simp [encR]
theorem getD_encR {l : List Nat} {k c : Nat} (h : l[k]? = some c) : (encR l).getD k [] = [.int .i32 (c : Int)] := by
  simp [encR, List.getD_eq_getElem?_getD, h]
theorem Runes_spec (s : ByteArray) (hs : s.size ≤ 1000000) (S : Store) : PRet Try.prog 92 [.str s] S (.sl .tail 1 (encR (runes s 0))) := by
  intro K hK
  refine pcalls_of (C := C) (fun d => d == 11 || d == 3 || d == 15 || d == 2) (fun _ => false) Try.func92 rfl rfl (by simp [Try.f92]) ?_
  simp -implicitDefEqProofs only [go_sem, ↓reduceIte, Nat.reduceEqDiff, Nat.reduceLT, Nat.reduceLeDiff, Nat.reduceAdd, Nat.reduceMul, Nat.reduceSub, reduceCtorEq, Nat.reduceMod, Nat.reduceBEq, Int.reduceBEq, Int.reduceBNe, Int.reduceToNat, Try.f92]
  intro b
  have hlen := runes_len s s.size 0 (by omega)
  refine vloop (fun e S' => S' = S ∧ ∃ (pos : Nat) (l : List Nat), runes s 0 = l ++ runes s pos ∧ e 3 = .sl .tail 1 (encR l) ∧ e 7 = .siter b s pos) (fun e _ => match e 7 with | .siter _ _ pos => s.size - pos | _ => 0) ?_ ?_
  · exact ⟨rfl, 0, [], rfl, rfl, rfl⟩
  · rintro J M Q' hJ hM hQ e S' ⟨rfl, pos, l, hr, e3, e7⟩
    have hll := congrArg List.length hr
    rw [List.length_append] at hll
    by_cases hlt : pos < s.size
    · have hd := decode_pos s pos
      rw [runes_lt hlt] at hr hll
      simp only [List.length_cons] at hll
      have hap : (l.length + 1) * 4 ≤ 140737488355328 ∧ l.length + 1 ≤ 140737488355328 := by omega
      simp -implicitDefEqProofs only [go_sem, ↓reduceIte, Nat.reduceEqDiff, Nat.reduceLT, Nat.reduceLeDiff, Nat.reduceAdd, Nat.reduceMul, Nat.reduceSub, reduceCtorEq, Nat.reduceMod, Nat.reduceBEq, Int.reduceBEq, Int.reduceBNe, Int.reduceToNat, e7, hlt, e3, hap]
      refine vnext hJ hM S' (fun _ _ h => h) ⟨rfl, pos + (Utf8.decode s pos).2, l ++ [(Utf8.decode s pos).1], ?_, ?_, ?_⟩ ?_
      · rw [hr]; simp
      · simp -implicitDefEqProofs only [go_sem, ↓reduceIte, Nat.reduceEqDiff, Nat.reduceLT, Nat.reduceLeDiff, Nat.reduceAdd, Nat.reduceMul, Nat.reduceSub, reduceCtorEq, Nat.reduceMod, Nat.reduceBEq, Int.reduceBEq, Int.reduceBNe, Int.reduceToNat]; rw [encR_one]
      · simp -implicitDefEqProofs only [go_sem, ↓reduceIte, Nat.reduceEqDiff, Nat.reduceLT, Nat.reduceLeDiff, Nat.reduceAdd, Nat.reduceMul, Nat.reduceSub, reduceCtorEq, Nat.reduceMod, Nat.reduceBEq, Int.reduceBEq, Int.reduceBNe, Int.reduceToNat]
      · simp -implicitDefEqProofs only [go_sem, ↓reduceIte, Nat.reduceEqDiff, Nat.reduceLT, Nat.reduceLeDiff, Nat.reduceAdd, Nat.reduceMul, Nat.reduceSub, reduceCtorEq, Nat.reduceMod, Nat.reduceBEq, Int.reduceBEq, Int.reduceBNe, Int.reduceToNat, e7]
        omega
    · rw [runes_ge hlt, List.append_nil] at hr
      rw [hr] at hK
      simp -implicitDefEqProofs only [go_sem, ↓reduceIte, Nat.reduceEqDiff, Nat.reduceLT, Nat.reduceLeDiff, Nat.reduceAdd, Nat.reduceMul, Nat.reduceSub, reduceCtorEq, Nat.reduceMod, Nat.reduceBEq, Int.reduceBEq, Int.reduceBNe, Int.reduceToNat, e7, hlt]
      refine hQ _ _ _ ?_
      simp -implicitDefEqProofs only [go_sem, ↓reduceIte, Nat.reduceEqDiff, Nat.reduceLT, Nat.reduceLeDiff, Nat.reduceAdd, Nat.reduceMul, Nat.reduceSub, reduceCtorEq, Nat.reduceMod, Nat.reduceBEq, Int.reduceBEq, Int.reduceBNe, Int.reduceToNat, e3]
      exact ⟨S', fun _ _ h => h, hK⟩
theorem many_spec (s : ByteArray) (hs : s.size ≤ 1000000) (lo hi : Nat) (hlo : lo ≤ 1000) (hhi : hi ≤ 1000) (S : Store) : PRet Try.prog 81 [.str s, .int .i64 lo, .int .i64 hi] S (.bool (allQ lo hi 0 (runes s 0))) := by
  intro K hK
  refine pcalls_of (C := C) (fun _ => false) (fun _ => false) Try.func81 rfl rfl (by simp [Try.f81]) ?_
  simp -implicitDefEqProofs only [go_sem, ↓reduceIte, Nat.reduceEqDiff, Nat.reduceLT, Nat.reduceLeDiff, Nat.reduceAdd, Nat.reduceMul, Nat.reduceSub, reduceCtorEq, Nat.reduceMod, Nat.reduceBEq, Int.reduceBEq, Int.reduceBNe, Int.reduceToNat, Try.f81]
  refine Runes_spec s hs _ _ ?_
  have hlen := runes_len s s.size 0 (by omega)
  generalize runes s 0 = l at hK hlen ⊢
  have hall : allQ lo hi 0 l = ((decide (lo ≤ l.length) && decide (l.length ≤ hi)) && l.all plainQ) := by unfold allQ; rw [Nat.zero_add, Bool.and_assoc]
  rw [hall] at hK
  by_cases h1 : lo ≤ l.length
  · have a1 : (lo : Int) ≤ l.length := by omega
    by_cases h2 : l.length ≤ hi
    · have a2 : (l.length : Int) ≤ hi := by omega
      rw [decide_eq_true h1, decide_eq_true h2] at hK
      simp only [Bool.and_self] at hK
      simp -implicitDefEqProofs only [go_sem, ↓reduceIte, Nat.reduceEqDiff, Nat.reduceLT, Nat.reduceLeDiff, Nat.reduceAdd, Nat.reduceMul, Nat.reduceSub, reduceCtorEq, Nat.reduceMod, Nat.reduceBEq, Int.reduceBEq, Int.reduceBNe, Int.reduceToNat, a1, a2]
      refine vloop (fun e S' => S' = S ∧ ∃ k : Nat, k ≤ l.length ∧ e 8 = .bool (true && (l.take k).all plainQ) ∧ e 23 = .sl .no 1 (encR l) ∧ e 24 = .int .i64 l.length ∧ e 25 = .int .i64 k) (fun e _ => l.length - iv (e 25)) ?_ ?_
      · exact ⟨rfl, 0, Nat.zero_le _, rfl, rfl, rfl, rfl⟩
      · rintro J M Q' hJ hM hQ e S' ⟨rfl, k, hk, e8, e23, e24, e25⟩
        by_cases hlt : k < l.length
        · obtain ⟨c, hc⟩ : ∃ c, l[k]? = some c := ⟨_, List.getElem?_eq_getElem hlt⟩
          have hin : (0 : Int) ≤ k ∧ (k : Int) < l.length := by omega
          have hk1 : IntKind.i64.wrap ((k : Int) + 1) = ((k + 1 : Nat) : Int) := wrap64 (by omega) (by omega)
          have hst : (l.take (k + 1)).all plainQ = ((l.take k).all plainQ && plainQ c) := by
            rw [List.take_add_one, hc]
            simp
          cases hq : (true && (l.take k).all plainQ)
          · have hq2 : (true && (l.take (k + 1)).all plainQ) = false := by rw [hst, ← Bool.and_assoc, hq]; rfl
            rw [hq] at e8
            simp -implicitDefEqProofs only [go_sem, ↓reduceIte, Nat.reduceEqDiff, Nat.reduceLT, Nat.reduceLeDiff, Nat.reduceAdd, Nat.reduceMul, Nat.reduceSub, reduceCtorEq, Nat.reduceMod, Nat.reduceBEq, Int.reduceBEq, Int.reduceBNe, Int.reduceToNat, hin, hlt, e8, e23, e24, e25, getD_encR hc, hk1]
            refine vnext hJ hM S' (fun _ _ h => h) ⟨rfl, k + 1, hlt, ?_, ?_, ?_, ?_⟩ ?_
            · rw [hq2]; simp -implicitDefEqProofs only [go_sem, ↓reduceIte, Nat.reduceEqDiff, Nat.reduceLT, Nat.reduceLeDiff, Nat.reduceAdd, Nat.reduceMul, Nat.reduceSub, reduceCtorEq, Nat.reduceMod, Nat.reduceBEq, Int.reduceBEq, Int.reduceBNe, Int.reduceToNat]
            · simp -implicitDefEqProofs only [go_sem, ↓reduceIte, Nat.reduceEqDiff, Nat.reduceLT, Nat.reduceLeDiff, Nat.reduceAdd, Nat.reduceMul, Nat.reduceSub, reduceCtorEq, Nat.reduceMod, Nat.reduceBEq, Int.reduceBEq, Int.reduceBNe, Int.reduceToNat, e23]
            · simp -implicitDefEqProofs only [go_sem, ↓reduceIte, Nat.reduceEqDiff, Nat.reduceLT, Nat.reduceLeDiff, Nat.reduceAdd, Nat.reduceMul, Nat.reduceSub, reduceCtorEq, Nat.reduceMod, Nat.reduceBEq, Int.reduceBEq, Int.reduceBNe, Int.reduceToNat, e24]
            · simp -implicitDefEqProofs only [go_sem, ↓reduceIte, Nat.reduceEqDiff, Nat.reduceLT, Nat.reduceLeDiff, Nat.reduceAdd, Nat.reduceMul, Nat.reduceSub, reduceCtorEq, Nat.reduceMod, Nat.reduceBEq, Int.reduceBEq, Int.reduceBNe, Int.reduceToNat]
            · simp -implicitDefEqProofs only [go_sem, ↓reduceIte, Nat.reduceEqDiff, Nat.reduceLT, Nat.reduceLeDiff, Nat.reduceAdd, Nat.reduceMul, Nat.reduceSub, reduceCtorEq, Nat.reduceMod, Nat.reduceBEq, Int.reduceBEq, Int.reduceBNe, Int.reduceToNat, e25]
              omega
          · have hq2 : (true && (l.take (k + 1)).all plainQ) = plainQ c := by rw [hst, ← Bool.and_assoc, hq]; rfl
            rw [hq] at e8
            simp -implicitDefEqProofs only [go_sem, ↓reduceIte, Nat.reduceEqDiff, Nat.reduceLT, Nat.reduceLeDiff, Nat.reduceAdd, Nat.reduceMul, Nat.reduceSub, reduceCtorEq, Nat.reduceMod, Nat.reduceBEq, Int.reduceBEq, Int.reduceBNe, Int.reduceToNat, hin, hlt, e8, e23, e24, e25, getD_encR hc]
            refine rplain_spec _ _ _ ?_
            simp -implicitDefEqProofs only [go_sem, ↓reduceIte, Nat.reduceEqDiff, Nat.reduceLT, Nat.reduceLeDiff, Nat.reduceAdd, Nat.reduceMul, Nat.reduceSub, reduceCtorEq, Nat.reduceMod, Nat.reduceBEq, Int.reduceBEq, Int.reduceBNe, Int.reduceToNat, e25, hk1]
            refine vnext hJ hM S' (fun _ _ h => h) ⟨rfl, k + 1, hlt, ?_, ?_, ?_, ?_⟩ ?_
            · rw [hq2]; simp -implicitDefEqProofs only [go_sem, ↓reduceIte, Nat.reduceEqDiff, Nat.reduceLT, Nat.reduceLeDiff, Nat.reduceAdd, Nat.reduceMul, Nat.reduceSub, reduceCtorEq, Nat.reduceMod, Nat.reduceBEq, Int.reduceBEq, Int.reduceBNe, Int.reduceToNat]
            · simp -implicitDefEqProofs only [go_sem, ↓reduceIte, Nat.reduceEqDiff, Nat.reduceLT, Nat.reduceLeDiff, Nat.reduceAdd, Nat.reduceMul, Nat.reduceSub, reduceCtorEq, Nat.reduceMod, Nat.reduceBEq, Int.reduceBEq, Int.reduceBNe, Int.reduceToNat, e23]
            · simp -implicitDefEqProofs only [go_sem, ↓reduceIte, Nat.reduceEqDiff, Nat.reduceLT, Nat.reduceLeDiff, Nat.reduceAdd, Nat.reduceMul, Nat.reduceSub, reduceCtorEq, Nat.reduceMod, Nat.reduceBEq, Int.reduceBEq, Int.reduceBNe, Int.reduceToNat, e24]
            · simp -implicitDefEqProofs only [go_sem, ↓reduceIte, Nat.reduceEqDiff, Nat.reduceLT, Nat.reduceLeDiff, Nat.reduceAdd, Nat.reduceMul, Nat.reduceSub, reduceCtorEq, Nat.reduceMod, Nat.reduceBEq, Int.reduceBEq, Int.reduceBNe, Int.reduceToNat]
            · simp -implicitDefEqProofs only [go_sem, ↓reduceIte, Nat.reduceEqDiff, Nat.reduceLT, Nat.reduceLeDiff, Nat.reduceAdd, Nat.reduceMul, Nat.reduceSub, reduceCtorEq, Nat.reduceMod, Nat.reduceBEq, Int.reduceBEq, Int.reduceBNe, Int.reduceToNat, e25]
              omega
        · have hcc : ¬ (k : Int) < l.length := by omega
          rw [List.take_of_length_le (by omega)] at e8
          simp -implicitDefEqProofs only [go_sem, ↓reduceIte, Nat.reduceEqDiff, Nat.reduceLT, Nat.reduceLeDiff, Nat.reduceAdd, Nat.reduceMul, Nat.reduceSub, reduceCtorEq, Nat.reduceMod, Nat.reduceBEq, Int.reduceBEq, Int.reduceBNe, Int.reduceToNat, hcc, e24, e25]
          refine hQ _ _ _ ?_
          simp -implicitDefEqProofs only [go_sem, ↓reduceIte, Nat.reduceEqDiff, Nat.reduceLT, Nat.reduceLeDiff, Nat.reduceAdd, Nat.reduceMul, Nat.reduceSub, reduceCtorEq, Nat.reduceMod, Nat.reduceBEq, Int.reduceBEq, Int.reduceBNe, Int.reduceToNat, e8]
          exact ⟨S', fun _ _ h => h, hK⟩
    · have a2 : ¬ (l.length : Int) ≤ hi := by omega
      rw [decide_eq_true h1, decide_eq_false h2] at hK
      simp only [Bool.and_false] at hK
      simp -implicitDefEqProofs only [go_sem, ↓reduceIte, Nat.reduceEqDiff, Nat.reduceLT, Nat.reduceLeDiff, Nat.reduceAdd, Nat.reduceMul, Nat.reduceSub, reduceCtorEq, Nat.reduceMod, Nat.reduceBEq, Int.reduceBEq, Int.reduceBNe, Int.reduceToNat, a1, a2]
      refine vloop (fun e S' => S' = S ∧ ∃ k : Nat, k ≤ l.length ∧ e 8 = .bool (false && (l.take k).all plainQ) ∧ e 23 = .sl .no 1 (encR l) ∧ e 24 = .int .i64 l.length ∧ e 25 = .int .i64 k) (fun e _ => l.length - iv (e 25)) ?_ ?_
      · exact ⟨rfl, 0, Nat.zero_le _, rfl, rfl, rfl, rfl⟩
      · rintro J M Q' hJ hM hQ e S' ⟨rfl, k, hk, e8, e23, e24, e25⟩
        by_cases hlt : k < l.length
        · obtain ⟨c, hc⟩ : ∃ c, l[k]? = some c := ⟨_, List.getElem?_eq_getElem hlt⟩
          have hin : (0 : Int) ≤ k ∧ (k : Int) < l.length := by omega
          have hk1 : IntKind.i64.wrap ((k : Int) + 1) = ((k + 1 : Nat) : Int) := wrap64 (by omega) (by omega)
          have hst : (l.take (k + 1)).all plainQ = ((l.take k).all plainQ && plainQ c) := by
            rw [List.take_add_one, hc]
            simp
          cases hq : (false && (l.take k).all plainQ)
          · have hq2 : (false && (l.take (k + 1)).all plainQ) = false := by rw [hst, ← Bool.and_assoc, hq]; rfl
            rw [hq] at e8
            simp -implicitDefEqProofs only [go_sem, ↓reduceIte, Nat.reduceEqDiff, Nat.reduceLT, Nat.reduceLeDiff, Nat.reduceAdd, Nat.reduceMul, Nat.reduceSub, reduceCtorEq, Nat.reduceMod, Nat.reduceBEq, Int.reduceBEq, Int.reduceBNe, Int.reduceToNat, hin, hlt, e8, e23, e24, e25, getD_encR hc, hk1]
            refine vnext hJ hM S' (fun _ _ h => h) ⟨rfl, k + 1, hlt, ?_, ?_, ?_, ?_⟩ ?_
            · rw [hq2]; simp -implicitDefEqProofs only [go_sem, ↓reduceIte, Nat.reduceEqDiff, Nat.reduceLT, Nat.reduceLeDiff, Nat.reduceAdd, Nat.reduceMul, Nat.reduceSub, reduceCtorEq, Nat.reduceMod, Nat.reduceBEq, Int.reduceBEq, Int.reduceBNe, Int.reduceToNat]
            · simp -implicitDefEqProofs only [go_sem, ↓reduceIte, Nat.reduceEqDiff, Nat.reduceLT, Nat.reduceLeDiff, Nat.reduceAdd, Nat.reduceMul, Nat.reduceSub, reduceCtorEq, Nat.reduceMod, Nat.reduceBEq, Int.reduceBEq, Int.reduceBNe, Int.reduceToNat, e23]
            · simp -implicitDefEqProofs only [go_sem, ↓reduceIte, Nat.reduceEqDiff, Nat.reduceLT, Nat.reduceLeDiff, Nat.reduceAdd, Nat.reduceMul, Nat.reduceSub, reduceCtorEq, Nat.reduceMod, Nat.reduceBEq, Int.reduceBEq, Int.reduceBNe, Int.reduceToNat, e24]
            · simp -implicitDefEqProofs only [go_sem, ↓reduceIte, Nat.reduceEqDiff, Nat.reduceLT, Nat.reduceLeDiff, Nat.reduceAdd, Nat.reduceMul, Nat.reduceSub, reduceCtorEq, Nat.reduceMod, Nat.reduceBEq, Int.reduceBEq, Int.reduceBNe, Int.reduceToNat]
            · simp -implicitDefEqProofs only [go_sem, ↓reduceIte, Nat.reduceEqDiff, Nat.reduceLT, Nat.reduceLeDiff, Nat.reduceAdd, Nat.reduceMul, Nat.reduceSub, reduceCtorEq, Nat.reduceMod, Nat.reduceBEq, Int.reduceBEq, Int.reduceBNe, Int.reduceToNat, e25]
              omega
          · have hq2 : (false && (l.take (k + 1)).all plainQ) = plainQ c := by rw [hst, ← Bool.and_assoc, hq]; rfl
            rw [hq] at e8
            simp -implicitDefEqProofs only [go_sem, ↓reduceIte, Nat.reduceEqDiff, Nat.reduceLT, Nat.reduceLeDiff, Nat.reduceAdd, Nat.reduceMul, Nat.reduceSub, reduceCtorEq, Nat.reduceMod, Nat.reduceBEq, Int.reduceBEq, Int.reduceBNe, Int.reduceToNat, hin, hlt, e8, e23, e24, e25, getD_encR hc]
            refine rplain_spec _ _ _ ?_
            simp -implicitDefEqProofs only [go_sem, ↓reduceIte, Nat.reduceEqDiff, Nat.reduceLT, Nat.reduceLeDiff, Nat.reduceAdd, Nat.reduceMul, Nat.reduceSub, reduceCtorEq, Nat.reduceMod, Nat.reduceBEq, Int.reduceBEq, Int.reduceBNe, Int.reduceToNat, e25, hk1]
            refine vnext hJ hM S' (fun _ _ h => h) ⟨rfl, k + 1, hlt, ?_, ?_, ?_, ?_⟩ ?_
            · rw [hq2]; simp -implicitDefEqProofs only [go_sem, ↓reduceIte, Nat.reduceEqDiff, Nat.reduceLT, Nat.reduceLeDiff, Nat.reduceAdd, Nat.reduceMul, Nat.reduceSub, reduceCtorEq, Nat.reduceMod, Nat.reduceBEq, Int.reduceBEq, Int.reduceBNe, Int.reduceToNat]
            · simp -implicitDefEqProofs only [go_sem, ↓reduceIte, Nat.reduceEqDiff, Nat.reduceLT, Nat.reduceLeDiff, Nat.reduceAdd, Nat.reduceMul, Nat.reduceSub, reduceCtorEq, Nat.reduceMod, Nat.reduceBEq, Int.reduceBEq, Int.reduceBNe, Int.reduceToNat, e23]
            · simp -implicitDefEqProofs only [go_sem, ↓reduceIte, Nat.reduceEqDiff, Nat.reduceLT, Nat.reduceLeDiff, Nat.reduceAdd, Nat.reduceMul, Nat.reduceSub, reduceCtorEq, Nat.reduceMod, Nat.reduceBEq, Int.reduceBEq, Int.reduceBNe, Int.reduceToNat, e24]
            · simp -implicitDefEqProofs only [go_sem, ↓reduceIte, Nat.reduceEqDiff, Nat.reduceLT, Nat.reduceLeDiff, Nat.reduceAdd, Nat.reduceMul, Nat.reduceSub, reduceCtorEq, Nat.reduceMod, Nat.reduceBEq, Int.reduceBEq, Int.reduceBNe, Int.reduceToNat]
            · simp -implicitDefEqProofs only [go_sem, ↓reduceIte, Nat.reduceEqDiff, Nat.reduceLT, Nat.reduceLeDiff, Nat.reduceAdd, Nat.reduceMul, Nat.reduceSub, reduceCtorEq, Nat.reduceMod, Nat.reduceBEq, Int.reduceBEq, Int.reduceBNe, Int.reduceToNat, e25]
              omega
        · have hcc : ¬ (k : Int) < l.length := by omega
          rw [List.take_of_length_le (by omega)] at e8
          simp -implicitDefEqProofs only [go_sem, ↓reduceIte, Nat.reduceEqDiff, Nat.reduceLT, Nat.reduceLeDiff, Nat.reduceAdd, Nat.reduceMul, Nat.reduceSub, reduceCtorEq, Nat.reduceMod, Nat.reduceBEq, Int.reduceBEq, Int.reduceBNe, Int.reduceToNat, hcc, e24, e25]
          refine hQ _ _ _ ?_
          simp -implicitDefEqProofs only [go_sem, ↓reduceIte, Nat.reduceEqDiff, Nat.reduceLT, Nat.reduceLeDiff, Nat.reduceAdd, Nat.reduceMul, Nat.reduceSub, reduceCtorEq, Nat.reduceMod, Nat.reduceBEq, Int.reduceBEq, Int.reduceBNe, Int.reduceToNat, e8]
          exact ⟨S', fun _ _ h => h, hK⟩
  · have a1 : ¬ (lo : Int) ≤ l.length := by omega
    rw [decide_eq_false h1] at hK
    simp only [Bool.false_and] at hK
    simp -implicitDefEqProofs only [go_sem, ↓reduceIte, Nat.reduceEqDiff, Nat.reduceLT, Nat.reduceLeDiff, Nat.reduceAdd, Nat.reduceMul, Nat.reduceSub, reduceCtorEq, Nat.reduceMod, Nat.reduceBEq, Int.reduceBEq, Int.reduceBNe, Int.reduceToNat, a1]
    refine vloop (fun e S' => S' = S ∧ ∃ k : Nat, k ≤ l.length ∧ e 8 = .bool (false && (l.take k).all plainQ) ∧ e 23 = .sl .no 1 (encR l) ∧ e 24 = .int .i64 l.length ∧ e 25 = .int .i64 k) (fun e _ => l.length - iv (e 25)) ?_ ?_
    · exact ⟨rfl, 0, Nat.zero_le _, rfl, rfl, rfl, rfl⟩
    · rintro J M Q' hJ hM hQ e S' ⟨rfl, k, hk, e8, e23, e24, e25⟩
      by_cases hlt : k < l.length
      · obtain ⟨c, hc⟩ : ∃ c, l[k]? = some c := ⟨_, List.getElem?_eq_getElem hlt⟩
        have hin : (0 : Int) ≤ k ∧ (k : Int) < l.length := by omega
        have hk1 : IntKind.i64.wrap ((k : Int) + 1) = ((k + 1 : Nat) : Int) := wrap64 (by omega) (by omega)
        have hst : (l.take (k + 1)).all plainQ = ((l.take k).all plainQ && plainQ c) := by
          rw [List.take_add_one, hc]
          simp
        cases hq : (false && (l.take k).all plainQ)
        · have hq2 : (false && (l.take (k + 1)).all plainQ) = false := by rw [hst, ← Bool.and_assoc, hq]; rfl
          rw [hq] at e8
          simp -implicitDefEqProofs only [go_sem, ↓reduceIte, Nat.reduceEqDiff, Nat.reduceLT, Nat.reduceLeDiff, Nat.reduceAdd, Nat.reduceMul, Nat.reduceSub, reduceCtorEq, Nat.reduceMod, Nat.reduceBEq, Int.reduceBEq, Int.reduceBNe, Int.reduceToNat, hin, hlt, e8, e23, e24, e25, getD_encR hc, hk1]
          refine vnext hJ hM S' (fun _ _ h => h) ⟨rfl, k + 1, hlt, ?_, ?_, ?_, ?_⟩ ?_
          · rw [hq2]; simp -implicitDefEqProofs only [go_sem, ↓reduceIte, Nat.reduceEqDiff, Nat.reduceLT, Nat.reduceLeDiff, Nat.reduceAdd, Nat.reduceMul, Nat.reduceSub, reduceCtorEq, Nat.reduceMod, Nat.reduceBEq, Int.reduceBEq, Int.reduceBNe, Int.reduceToNat]
          · simp -implicitDefEqProofs only [go_sem, ↓reduceIte, Nat.reduceEqDiff, Nat.reduceLT, Nat.reduceLeDiff, Nat.reduceAdd, Nat.reduceMul, Nat.reduceSub, reduceCtorEq, Nat.reduceMod, Nat.reduceBEq, Int.reduceBEq, Int.reduceBNe, Int.reduceToNat, e23]
          · simp -implicitDefEqProofs only [go_sem, ↓reduceIte, Nat.reduceEqDiff, Nat.reduceLT, Nat.reduceLeDiff, Nat.reduceAdd, Nat.reduceMul, Nat.reduceSub, reduceCtorEq, Nat.reduceMod, Nat.reduceBEq, Int.reduceBEq, Int.reduceBNe, Int.reduceToNat, e24]
          · simp -implicitDefEqProofs only [go_sem, ↓reduceIte, Nat.reduceEqDiff, Nat.reduceLT, Nat.reduceLeDiff, Nat.reduceAdd, Nat.reduceMul, Nat.reduceSub, reduceCtorEq, Nat.reduceMod, Nat.reduceBEq, Int.reduceBEq, Int.reduceBNe, Int.reduceToNat]
          · simp -implicitDefEqProofs only [go_sem, ↓reduceIte, Nat.reduceEqDiff, Nat.reduceLT, Nat.reduceLeDiff, Nat.reduceAdd, Nat.reduceMul, Nat.reduceSub, reduceCtorEq, Nat.reduceMod, Nat.reduceBEq, Int.reduceBEq, Int.reduceBNe, Int.reduceToNat, e25]
            omega
        · have hq2 : (false && (l.take (k + 1)).all plainQ) = plainQ c := by rw [hst, ← Bool.and_assoc, hq]; rfl
          rw [hq] at e8
          simp -implicitDefEqProofs only [go_sem, ↓reduceIte, Nat.reduceEqDiff, Nat.reduceLT, Nat.reduceLeDiff, Nat.reduceAdd, Nat.reduceMul, Nat.reduceSub, reduceCtorEq, Nat.reduceMod, Nat.reduceBEq, Int.reduceBEq, Int.reduceBNe, Int.reduceToNat, hin, hlt, e8, e23, e24, e25, getD_encR hc]
          refine rplain_spec _ _ _ ?_
          simp -implicitDefEqProofs only [go_sem, ↓reduceIte, Nat.reduceEqDiff, Nat.reduceLT, Nat.reduceLeDiff, Nat.reduceAdd, Nat.reduceMul, Nat.reduceSub, reduceCtorEq, Nat.reduceMod, Nat.reduceBEq, Int.reduceBEq, Int.reduceBNe, Int.reduceToNat, e25, hk1]
          refine vnext hJ hM S' (fun _ _ h => h) ⟨rfl, k + 1, hlt, ?_, ?_, ?_, ?_⟩ ?_
          · rw [hq2]; simp -implicitDefEqProofs only [go_sem, ↓reduceIte, Nat.reduceEqDiff, Nat.reduceLT, Nat.reduceLeDiff, Nat.reduceAdd, Nat.reduceMul, Nat.reduceSub, reduceCtorEq, Nat.reduceMod, Nat.reduceBEq, Int.reduceBEq, Int.reduceBNe, Int.reduceToNat]
          · simp -implicitDefEqProofs only [go_sem, ↓reduceIte, Nat.reduceEqDiff, Nat.reduceLT, Nat.reduceLeDiff, Nat.reduceAdd, Nat.reduceMul, Nat.reduceSub, reduceCtorEq, Nat.reduceMod, Nat.reduceBEq, Int.reduceBEq, Int.reduceBNe, Int.reduceToNat, e23]
          · simp -implicitDefEqProofs only [go_sem, ↓reduceIte, Nat.reduceEqDiff, Nat.reduceLT, Nat.reduceLeDiff, Nat.reduceAdd, Nat.reduceMul, Nat.reduceSub, reduceCtorEq, Nat.reduceMod, Nat.reduceBEq, Int.reduceBEq, Int.reduceBNe, Int.reduceToNat, e24]
          · simp -implicitDefEqProofs only [go_sem, ↓reduceIte, Nat.reduceEqDiff, Nat.reduceLT, Nat.reduceLeDiff, Nat.reduceAdd, Nat.reduceMul, Nat.reduceSub, reduceCtorEq, Nat.reduceMod, Nat.reduceBEq, Int.reduceBEq, Int.reduceBNe, Int.reduceToNat]
          · simp -implicitDefEqProofs only [go_sem, ↓reduceIte, Nat.reduceEqDiff, Nat.reduceLT, Nat.reduceLeDiff, Nat.reduceAdd, Nat.reduceMul, Nat.reduceSub, reduceCtorEq, Nat.reduceMod, Nat.reduceBEq, Int.reduceBEq, Int.reduceBNe, Int.reduceToNat, e25]
            omega
      · have hcc : ¬ (k : Int) < l.length := by omega
        rw [List.take_of_length_le (by omega)] at e8
        simp -implicitDefEqProofs only [go_sem, ↓reduceIte, Nat.reduceEqDiff, Nat.reduceLT, Nat.reduceLeDiff, Nat.reduceAdd, Nat.reduceMul, Nat.reduceSub, reduceCtorEq, Nat.reduceMod, Nat.reduceBEq, Int.reduceBEq, Int.reduceBNe, Int.reduceToNat, hcc, e24, e25]
        refine hQ _ _ _ ?_
        simp -implicitDefEqProofs only [go_sem, ↓reduceIte, Nat.reduceEqDiff, Nat.reduceLT, Nat.reduceLeDiff, Nat.reduceAdd, Nat.reduceMul, Nat.reduceSub, reduceCtorEq, Nat.reduceMod, Nat.reduceBEq, Int.reduceBEq, Int.reduceBNe, Int.reduceToNat, e8]
        exact ⟨S', fun _ _ h => h, hK⟩
theorem rkey_spec (s : ByteArray) (hs : s.size ≤ 1000000) (S : Store) : PRet Try.prog 64 [.str s] S (.int .i64 (if keyQ s then 0 else 20)) := by
  intro K hK
  refine pcalls_of (C := C) (fun _ => false) (fun _ => false) Try.func64 rfl rfl (by simp [Try.f64]) ?_
  simp -implicitDefEqProofs only [go_sem, ↓reduceIte, Nat.reduceEqDiff, Nat.reduceLT, Nat.reduceLeDiff, Nat.reduceAdd, Nat.reduceMul, Nat.reduceSub, reduceCtorEq, Nat.reduceMod, Nat.reduceBEq, Int.reduceBEq, Int.reduceBNe, Int.reduceToNat, Try.f64]
  refine many_spec s hs 1 24 (by decide) (by decide) _ _ ?_
  unfold keyQ at hK
  cases h : allQ 1 24 0 (runes s 0) <;> rw [h] at hK <;> (simp -implicitDefEqProofs only [go_sem, ↓reduceIte, Nat.reduceEqDiff, Nat.reduceLT, Nat.reduceLeDiff, Nat.reduceAdd, Nat.reduceMul, Nat.reduceSub, reduceCtorEq, Nat.reduceMod, Nat.reduceBEq, Int.reduceBEq, Int.reduceBNe, Int.reduceToNat]; exact ⟨S, fun _ _ h => h, hK⟩)
theorem rval_spec (s : ByteArray) (hs : s.size ≤ 1000000) (S : Store) : PRet Try.prog 65 [.str s] S (.int .i64 (if valQ s then 0 else 21)) := by
  intro K hK
  refine pcalls_of (C := C) (fun _ => false) (fun _ => false) Try.func65 rfl rfl (by simp [Try.f65]) ?_
  simp -implicitDefEqProofs only [go_sem, ↓reduceIte, Nat.reduceEqDiff, Nat.reduceLT, Nat.reduceLeDiff, Nat.reduceAdd, Nat.reduceMul, Nat.reduceSub, reduceCtorEq, Nat.reduceMod, Nat.reduceBEq, Int.reduceBEq, Int.reduceBNe, Int.reduceToNat, Try.f65]
  refine many_spec s hs 0 48 (by decide) (by decide) _ _ ?_
  unfold valQ at hK
  cases h : allQ 0 48 0 (runes s 0) <;> rw [h] at hK <;> (simp -implicitDefEqProofs only [go_sem, ↓reduceIte, Nat.reduceEqDiff, Nat.reduceLT, Nat.reduceLeDiff, Nat.reduceAdd, Nat.reduceMul, Nat.reduceSub, reduceCtorEq, Nat.reduceMod, Nat.reduceBEq, Int.reduceBEq, Int.reduceBNe, Int.reduceToNat]; exact ⟨S, fun _ _ h => h, hK⟩)
end Go.Proofs.Ytmplfmhcpkmpbaa.V
