/- Views: numbers of texts; sums in two halves. -/
import Derived.Test.YtdioedabjaaboaaGreatXB
set_option linter.unusedVariables false
set_option linter.unusedSimpArgs false
namespace Go.Proofs.YtdioedabjaaboaaGreat.V
open Go Go.VL

theorem wrapu64 {x : Int} (h1 : 0 ≤ x) (h2 : x < 18446744073709551616) : IntKind.u64.wrap x = x := by
 have : IntKind.u64.wrap x = x % 18446744073709551616 := by simp [IntKind.wrap, IntKind.bits, IntKind.signed]
 rw [this, Int.emod_eq_of_lt h1 h2]
theorem wrap32 {x : Int} (h1 : -2147483648 ≤ x) (h2 : x ≤ 2147483647) : IntKind.i32.wrap x = x := by
 have : IntKind.i32.wrap x = if x % 4294967296 < 2147483648 then x % 4294967296 else x % 4294967296 - 4294967296 := by simp [IntKind.wrap, IntKind.bits, IntKind.signed]; split <;> omega
 rw [this]; split <;> omega
/-- The digits of a number, from a place on: its sign, what it is, how many they are. -/
def numL (s : ByteArray) (pos : Nat) (neg : Bool) (n d : Nat) : Option (Bool × Nat × Nat) :=
 if h : pos < s.size then
  if pos = 0 ∧ (Utf8.decode s pos).1 = 45 ∧ 1 < s.size then numL s (pos + (Utf8.decode s pos).2) true n d
  else if (Utf8.decode s pos).1 < 48 ∨ 57 < (Utf8.decode s pos).1 ∨ (0 < d ∧ n = 0) ∨ 18 < d then none
  else numL s (pos + (Utf8.decode s pos).2) neg (10 * n + ((Utf8.decode s pos).1 - 48)) (d + 1)
 else some (neg, n, d)
termination_by s.size - pos
decreasing_by all_goals (have := decode_pos s pos; omega)
section
variable {s : ByteArray} {pos : Nat} {neg : Bool} {n d : Nat}
theorem numL_neg (h : pos < s.size) (h1 : pos = 0 ∧ (Utf8.decode s pos).1 = 45 ∧ 1 < s.size) : numL s pos neg n d = numL s (pos + (Utf8.decode s pos).2) true n d := by rw [numL, dif_pos h, if_pos h1]
theorem numL_bad (h : pos < s.size) (h1 : ¬ (pos = 0 ∧ (Utf8.decode s pos).1 = 45 ∧ 1 < s.size)) (h2 : (Utf8.decode s pos).1 < 48 ∨ 57 < (Utf8.decode s pos).1 ∨ (0 < d ∧ n = 0) ∨ 18 < d) : numL s pos neg n d = none := by rw [numL, dif_pos h, if_neg h1, if_pos h2]
theorem numL_ok (h : pos < s.size) (h1 : ¬ (pos = 0 ∧ (Utf8.decode s pos).1 = 45 ∧ 1 < s.size)) (h2 : ¬ ((Utf8.decode s pos).1 < 48 ∨ 57 < (Utf8.decode s pos).1 ∨ (0 < d ∧ n = 0) ∨ 18 < d)) : numL s pos neg n d = numL s (pos + (Utf8.decode s pos).2) neg (10 * n + ((Utf8.decode s pos).1 - 48)) (d + 1) := by rw [numL, dif_pos h, if_neg h1, if_neg h2]
theorem numL_end (h : ¬ pos < s.size) : numL s pos neg n d = some (neg, n, d) := by rw [numL, dif_neg h]
end
def numE : Option (Bool × Nat × Nat) → Int × Int
 | none => (0, 23)
 | some (neg, n, d) => if d = 0 ∨ (neg = true ∧ n = 0) then (0, 23) else if neg = true ∧ n ≤ 9223372036854775808 then (-(n : Int), 0) else if 9223372036854775807 < n then (0, 5) else ((n : Int), 0)
def numF (s : ByteArray) : Int × Int := numE (numL s 0 false 0 0)
theorem pow_num {n d c : Nat} (h : n < 10 ^ d) (hc : c ≤ 9) : 10 * n + c < 10 ^ (d + 1) := by
 rw [Nat.pow_succ]; omega
theorem pow_le {n d : Nat} (h : n < 10 ^ d) (hd : d ≤ 19) : n < 10000000000000000000 := by
 have : (10 : Nat) ^ d ≤ 10 ^ 19 := Nat.pow_le_pow_right (by decide) hd
 exact Nat.lt_of_lt_of_le h this
theorem Number_spec (s : ByteArray) (hs : s.size ≤ 1000000) (S : Store) : PRet Tryz.prog 114 [.str s] S (.tup [.int .i64 (numF s).1, .int .i64 (numF s).2]) := by
 intro K hK
 refine pcalls_of (C := C) (fun _ => false) (fun _ => false) Tryz.func114 rfl rfl (by simp [Tryz.f114]) ?_
 simp -implicitDefEqProofs only [go_sem, ↓reduceIte, Nat.reduceEqDiff, Nat.reduceLT, Nat.reduceLeDiff, Nat.reduceAdd, Nat.reduceMul, Nat.reduceSub, reduceCtorEq, Nat.reduceMod, Nat.reduceBEq, Int.reduceBEq, Int.reduceBNe, Int.reduceToNat, Tryz.f114]
 intro b
 unfold numF at hK
 refine vloop (fun e S' => S' = S ∧ ∃ (pos : Nat) (neg : Bool) (n d : Nat), numL s 0 false 0 0 = numL s pos neg n d ∧ n < 10 ^ d ∧ d ≤ 19 ∧ e 0 = .str s ∧ e 4 = .bool neg ∧ e 5 = .int .u64 (n : Int) ∧ e 6 = .int .i64 (d : Int) ∧ e 10 = .siter b s pos) (fun e _ => match e 10 with | .siter _ _ pos => s.size - pos | _ => 0) ?_ ?_
 ·exact ⟨rfl, 0, false, 0, 0, rfl, by decide, by decide, rfl, rfl, rfl, rfl, rfl⟩
 ·rintro J M Q' hJ hM hQ e S' ⟨rfl, pos, neg, n, d, hr, hn, hd19, e0, e4, e5, e6, e10⟩
  have hnb := pow_le hn hd19
  by_cases hlt : pos < s.size
  ·have hd := decode_pos s pos
   obtain ⟨c, hc⟩ : ∃ c, c = (Utf8.decode s pos).1 := ⟨_, rfl⟩
   obtain ⟨wd, hwd⟩ : ∃ c, c = (Utf8.decode s pos).2 := ⟨_, rfl⟩
   have bad : ∀ (h1 : ¬ (pos = 0 ∧ c = 45 ∧ 1 < s.size)) (h2 : c < 48 ∨ 57 < c ∨ (0 < d ∧ n = 0) ∨ 18 < d), K (.tup [.int .i64 0, .int .i64 23]) S' := by
    intro h1 h2
    rw [hc] at h1 h2
    rw [numL_bad hlt h1 h2] at hr
    rw [hr] at hK
    exact hK
   have ok : ∀ (h1 : ¬ (pos = 0 ∧ c = 45 ∧ 1 < s.size)) (h2 : ¬ (c < 48 ∨ 57 < c ∨ (0 < d ∧ n = 0) ∨ 18 < d)), numL s 0 false 0 0 = numL s (pos + wd) neg (10 * n + (c - 48)) (d + 1) ∧ 10 * n + (c - 48) < 10 ^ (d + 1) ∧ d + 1 ≤ 19 := by
    intro h1 h2
    refine ⟨?_, pow_num hn (by omega), by omega⟩
    rw [hc] at h1 h2
    rw [hr, numL_ok hlt h1 h2, hc, hwd]
   rw [← hwd] at hd
   have step : ∀ (h1 : ¬ (pos = 0 ∧ c = 45 ∧ 1 < s.size)) (h2 : ¬ (c < 48 ∨ 57 < c ∨ (0 < d ∧ n = 0) ∨ 18 < d)), ((IntKind.i64.wrap ((d : Int) + 1) = ((d + 1 : Nat) : Int)) ∧ IntKind.u64.wrap (10 * (n : Int)) = ((10 * n : Nat) : Int)) ∧ IntKind.i32.wrap ((c : Int) - 48) = ((c - 48 : Nat) : Int) ∧ IntKind.u64.wrap ((c - 48 : Nat) : Int) = ((c - 48 : Nat) : Int) ∧ IntKind.u64.wrap (((10 * n : Nat) : Int) + ((c - 48 : Nat) : Int)) = ((10 * n + (c - 48) : Nat) : Int) := by
    intro h1 h2
    have : n < 10 ^ 18 ∨ d = 19 := by
     by_cases h : d = 19
     ·exact .inr h
     ·exact .inl (Nat.lt_of_lt_of_le hn (Nat.pow_le_pow_right (by decide) (by omega)))
    have hn18 : n < 1000000000000000000 := by
     rcases this with h | h
     ·simpa using h
     ·omega
    refine ⟨⟨wrap64 (by omega) (by omega), ?_⟩, ?_, wrapu64 (by omega) (by omega), ?_⟩
    ·rw [wrapu64 (by omega) (by omega)]; omega
    ·rw [wrap32 (by omega) (by omega)]; omega
    ·rw [wrapu64 (by omega) (by omega)]; omega
   by_cases p0 : pos = 0
   ·have q0 : ((pos : Int) == 0) = true := by rw [p0]; rfl
    by_cases p1 : c = 45
    ·have q1 : ((c : Int) == 45) = true := by rw [p1]; rfl
     by_cases p2 : 1 < s.size
     ·have q2 : (1 : Int) < (s.size : Int) := by omega
      have g1 : numL s 0 false 0 0 = numL s (pos + wd) true n d := by rw [hr, numL_neg hlt ⟨p0, by rw [← hc]; exact p1, p2⟩, hwd]
      simp -implicitDefEqProofs only [go_sem, ↓reduceIte, Nat.reduceEqDiff, Nat.reduceLT, Nat.reduceLeDiff, Nat.reduceAdd, Nat.reduceMul, Nat.reduceSub, reduceCtorEq, Nat.reduceMod, Nat.reduceBEq, Int.reduceBEq, Int.reduceBNe, Int.reduceToNat, e0, e4, e5, e6, e10, hlt, ← hc, ← hwd, q0, q1, q2]
      refine vnext hJ hM S' (fun _ _ h => h) ⟨rfl, pos + wd, true, n, d, g1, hn, hd19, ?_, ?_, ?_, ?_, ?_⟩ ?_
      ·simp -implicitDefEqProofs only [go_sem, ↓reduceIte, Nat.reduceEqDiff, e0]
      ·simp -implicitDefEqProofs only [go_sem, ↓reduceIte, Nat.reduceEqDiff]
      ·simp -implicitDefEqProofs only [go_sem, ↓reduceIte, Nat.reduceEqDiff, e5]
      ·simp -implicitDefEqProofs only [go_sem, ↓reduceIte, Nat.reduceEqDiff, e6]
      ·simp -implicitDefEqProofs only [go_sem, ↓reduceIte, Nat.reduceEqDiff]
      ·simp -implicitDefEqProofs only [go_sem, ↓reduceIte, Nat.reduceEqDiff, e10]
       omega
     ·have q2 : ¬ (1 : Int) < (s.size : Int) := by omega
      have h1 : ¬ (pos = 0 ∧ c = 45 ∧ 1 < s.size) := fun h => p2 h.2.2
      by_cases c1 : c < 48
      ·have k1 : (c : Int) < 48 := by omega
       simp -implicitDefEqProofs only [go_sem, ↓reduceIte, Nat.reduceEqDiff, Nat.reduceLT, Nat.reduceLeDiff, Nat.reduceAdd, Nat.reduceMul, Nat.reduceSub, reduceCtorEq, Nat.reduceMod, Nat.reduceBEq, Int.reduceBEq, Int.reduceBNe, Int.reduceToNat, e0, e4, e5, e6, e10, hlt, ← hc, ← hwd, q0, q1, q2, k1]
       refine hQ _ _ _ ?_
       simp -implicitDefEqProofs only [go_sem, ↓reduceIte, Nat.reduceEqDiff, Nat.reduceLT, Nat.reduceLeDiff, Nat.reduceAdd, Nat.reduceMul, Nat.reduceSub, reduceCtorEq, Nat.reduceMod, Nat.reduceBEq, Int.reduceBEq, Int.reduceBNe, Int.reduceToNat]
       exact ⟨S', fun _ _ h => h, bad h1 (.inl c1)⟩
      ·have k1 : ¬ (c : Int) < 48 := by omega
       by_cases c2 : 57 < c
       ·have k2 : (57 : Int) < c := by omega
        simp -implicitDefEqProofs only [go_sem, ↓reduceIte, Nat.reduceEqDiff, Nat.reduceLT, Nat.reduceLeDiff, Nat.reduceAdd, Nat.reduceMul, Nat.reduceSub, reduceCtorEq, Nat.reduceMod, Nat.reduceBEq, Int.reduceBEq, Int.reduceBNe, Int.reduceToNat, e0, e4, e5, e6, e10, hlt, ← hc, ← hwd, q0, q1, q2, k1, k2]
        refine hQ _ _ _ ?_
        simp -implicitDefEqProofs only [go_sem, ↓reduceIte, Nat.reduceEqDiff, Nat.reduceLT, Nat.reduceLeDiff, Nat.reduceAdd, Nat.reduceMul, Nat.reduceSub, reduceCtorEq, Nat.reduceMod, Nat.reduceBEq, Int.reduceBEq, Int.reduceBNe, Int.reduceToNat]
        exact ⟨S', fun _ _ h => h, bad h1 (.inr (.inl c2))⟩
       ·have k2 : ¬ (57 : Int) < c := by omega
        by_cases c3 : 0 < d
        ·have k3 : (0 : Int) < d := by omega
         by_cases c4 : n = 0
         ·have k4 : ((n : Int) == 0) = true := by rw [c4]; rfl
          simp -implicitDefEqProofs only [go_sem, ↓reduceIte, Nat.reduceEqDiff, Nat.reduceLT, Nat.reduceLeDiff, Nat.reduceAdd, Nat.reduceMul, Nat.reduceSub, reduceCtorEq, Nat.reduceMod, Nat.reduceBEq, Int.reduceBEq, Int.reduceBNe, Int.reduceToNat, e0, e4, e5, e6, e10, hlt, ← hc, ← hwd, q0, q1, q2, k1, k2, k3, k4]
          refine hQ _ _ _ ?_
          simp -implicitDefEqProofs only [go_sem, ↓reduceIte, Nat.reduceEqDiff, Nat.reduceLT, Nat.reduceLeDiff, Nat.reduceAdd, Nat.reduceMul, Nat.reduceSub, reduceCtorEq, Nat.reduceMod, Nat.reduceBEq, Int.reduceBEq, Int.reduceBNe, Int.reduceToNat]
          exact ⟨S', fun _ _ h => h, bad h1 (.inr (.inr (.inl ⟨c3, c4⟩)))⟩
         ·have k4 : ((n : Int) == 0) = false := by simp; omega
          by_cases c5 : 18 < d
          ·have k5 : (18 : Int) < d := by omega
           simp -implicitDefEqProofs only [go_sem, ↓reduceIte, Nat.reduceEqDiff, Nat.reduceLT, Nat.reduceLeDiff, Nat.reduceAdd, Nat.reduceMul, Nat.reduceSub, reduceCtorEq, Nat.reduceMod, Nat.reduceBEq, Int.reduceBEq, Int.reduceBNe, Int.reduceToNat, e0, e4, e5, e6, e10, hlt, ← hc, ← hwd, q0, q1, q2, k1, k2, k3, k4, k5]
           refine hQ _ _ _ ?_
           simp -implicitDefEqProofs only [go_sem, ↓reduceIte, Nat.reduceEqDiff, Nat.reduceLT, Nat.reduceLeDiff, Nat.reduceAdd, Nat.reduceMul, Nat.reduceSub, reduceCtorEq, Nat.reduceMod, Nat.reduceBEq, Int.reduceBEq, Int.reduceBNe, Int.reduceToNat]
           exact ⟨S', fun _ _ h => h, bad h1 (.inr (.inr (.inr c5)))⟩
          ·have k5 : ¬ (18 : Int) < d := by omega
           have h2 : ¬ (c < 48 ∨ 57 < c ∨ (0 < d ∧ n = 0) ∨ 18 < d) := by omega
           obtain ⟨⟨w1, w2⟩, w3, w4, w5⟩ := step h1 h2
           obtain ⟨g1, g2, g3⟩ := ok h1 h2
           simp -implicitDefEqProofs only [go_sem, ↓reduceIte, Nat.reduceEqDiff, Nat.reduceLT, Nat.reduceLeDiff, Nat.reduceAdd, Nat.reduceMul, Nat.reduceSub, reduceCtorEq, Nat.reduceMod, Nat.reduceBEq, Int.reduceBEq, Int.reduceBNe, Int.reduceToNat, e0, e4, e5, e6, e10, hlt, ← hc, ← hwd, q0, q1, q2, k1, k2, k3, k4, k5, w1, w2, w3, w4, w5]
           refine vnext hJ hM S' (fun _ _ h => h) ⟨rfl, pos + wd, neg, 10 * n + (c - 48), d + 1, g1, g2, g3, ?_, ?_, ?_, ?_, ?_⟩ ?_
           ·simp -implicitDefEqProofs only [go_sem, ↓reduceIte, Nat.reduceEqDiff, e0]
           ·simp -implicitDefEqProofs only [go_sem, ↓reduceIte, Nat.reduceEqDiff, e4]
           ·simp -implicitDefEqProofs only [go_sem, ↓reduceIte, Nat.reduceEqDiff]
           ·simp -implicitDefEqProofs only [go_sem, ↓reduceIte, Nat.reduceEqDiff]
           ·simp -implicitDefEqProofs only [go_sem, ↓reduceIte, Nat.reduceEqDiff]
           ·simp -implicitDefEqProofs only [go_sem, ↓reduceIte, Nat.reduceEqDiff, e10]
            omega
        ·have k3 : ¬ (0 : Int) < d := by omega
         have k5 : ¬ (18 : Int) < d := by omega
         have h2 : ¬ (c < 48 ∨ 57 < c ∨ (0 < d ∧ n = 0) ∨ 18 < d) := by omega
         obtain ⟨⟨w1, w2⟩, w3, w4, w5⟩ := step h1 h2
         obtain ⟨g1, g2, g3⟩ := ok h1 h2
         simp -implicitDefEqProofs only [go_sem, ↓reduceIte, Nat.reduceEqDiff, Nat.reduceLT, Nat.reduceLeDiff, Nat.reduceAdd, Nat.reduceMul, Nat.reduceSub, reduceCtorEq, Nat.reduceMod, Nat.reduceBEq, Int.reduceBEq, Int.reduceBNe, Int.reduceToNat, e0, e4, e5, e6, e10, hlt, ← hc, ← hwd, q0, q1, q2, k1, k2, k3, k5, w1, w2, w3, w4, w5]
         refine vnext hJ hM S' (fun _ _ h => h) ⟨rfl, pos + wd, neg, 10 * n + (c - 48), d + 1, g1, g2, g3, ?_, ?_, ?_, ?_, ?_⟩ ?_
         ·simp -implicitDefEqProofs only [go_sem, ↓reduceIte, Nat.reduceEqDiff, e0]
         ·simp -implicitDefEqProofs only [go_sem, ↓reduceIte, Nat.reduceEqDiff, e4]
         ·simp -implicitDefEqProofs only [go_sem, ↓reduceIte, Nat.reduceEqDiff]
         ·simp -implicitDefEqProofs only [go_sem, ↓reduceIte, Nat.reduceEqDiff]
         ·simp -implicitDefEqProofs only [go_sem, ↓reduceIte, Nat.reduceEqDiff]
         ·simp -implicitDefEqProofs only [go_sem, ↓reduceIte, Nat.reduceEqDiff, e10]
          omega
    ·have q1 : ((c : Int) == 45) = false := by simp; omega
     have h1 : ¬ (pos = 0 ∧ c = 45 ∧ 1 < s.size) := fun h => p1 h.2.1
     by_cases c1 : c < 48
     ·have k1 : (c : Int) < 48 := by omega
      simp -implicitDefEqProofs only [go_sem, ↓reduceIte, Nat.reduceEqDiff, Nat.reduceLT, Nat.reduceLeDiff, Nat.reduceAdd, Nat.reduceMul, Nat.reduceSub, reduceCtorEq, Nat.reduceMod, Nat.reduceBEq, Int.reduceBEq, Int.reduceBNe, Int.reduceToNat, e0, e4, e5, e6, e10, hlt, ← hc, ← hwd, q0, q1, k1]
      refine hQ _ _ _ ?_
      simp -implicitDefEqProofs only [go_sem, ↓reduceIte, Nat.reduceEqDiff, Nat.reduceLT, Nat.reduceLeDiff, Nat.reduceAdd, Nat.reduceMul, Nat.reduceSub, reduceCtorEq, Nat.reduceMod, Nat.reduceBEq, Int.reduceBEq, Int.reduceBNe, Int.reduceToNat]
      exact ⟨S', fun _ _ h => h, bad h1 (.inl c1)⟩
     ·have k1 : ¬ (c : Int) < 48 := by omega
      by_cases c2 : 57 < c
      ·have k2 : (57 : Int) < c := by omega
       simp -implicitDefEqProofs only [go_sem, ↓reduceIte, Nat.reduceEqDiff, Nat.reduceLT, Nat.reduceLeDiff, Nat.reduceAdd, Nat.reduceMul, Nat.reduceSub, reduceCtorEq, Nat.reduceMod, Nat.reduceBEq, Int.reduceBEq, Int.reduceBNe, Int.reduceToNat, e0, e4, e5, e6, e10, hlt, ← hc, ← hwd, q0, q1, k1, k2]
       refine hQ _ _ _ ?_
       simp -implicitDefEqProofs only [go_sem, ↓reduceIte, Nat.reduceEqDiff, Nat.reduceLT, Nat.reduceLeDiff, Nat.reduceAdd, Nat.reduceMul, Nat.reduceSub, reduceCtorEq, Nat.reduceMod, Nat.reduceBEq, Int.reduceBEq, Int.reduceBNe, Int.reduceToNat]
       exact ⟨S', fun _ _ h => h, bad h1 (.inr (.inl c2))⟩
      ·have k2 : ¬ (57 : Int) < c := by omega
       by_cases c3 : 0 < d
       ·have k3 : (0 : Int) < d := by omega
        by_cases c4 : n = 0
        ·have k4 : ((n : Int) == 0) = true := by rw [c4]; rfl
         simp -implicitDefEqProofs only [go_sem, ↓reduceIte, Nat.reduceEqDiff, Nat.reduceLT, Nat.reduceLeDiff, Nat.reduceAdd, Nat.reduceMul, Nat.reduceSub, reduceCtorEq, Nat.reduceMod, Nat.reduceBEq, Int.reduceBEq, Int.reduceBNe, Int.reduceToNat, e0, e4, e5, e6, e10, hlt, ← hc, ← hwd, q0, q1, k1, k2, k3, k4]
         refine hQ _ _ _ ?_
         simp -implicitDefEqProofs only [go_sem, ↓reduceIte, Nat.reduceEqDiff, Nat.reduceLT, Nat.reduceLeDiff, Nat.reduceAdd, Nat.reduceMul, Nat.reduceSub, reduceCtorEq, Nat.reduceMod, Nat.reduceBEq, Int.reduceBEq, Int.reduceBNe, Int.reduceToNat]
         exact ⟨S', fun _ _ h => h, bad h1 (.inr (.inr (.inl ⟨c3, c4⟩)))⟩
        ·have k4 : ((n : Int) == 0) = false := by simp; omega
         by_cases c5 : 18 < d
         ·have k5 : (18 : Int) < d := by omega
          simp -implicitDefEqProofs only [go_sem, ↓reduceIte, Nat.reduceEqDiff, Nat.reduceLT, Nat.reduceLeDiff, Nat.reduceAdd, Nat.reduceMul, Nat.reduceSub, reduceCtorEq, Nat.reduceMod, Nat.reduceBEq, Int.reduceBEq, Int.reduceBNe, Int.reduceToNat, e0, e4, e5, e6, e10, hlt, ← hc, ← hwd, q0, q1, k1, k2, k3, k4, k5]
          refine hQ _ _ _ ?_
          simp -implicitDefEqProofs only [go_sem, ↓reduceIte, Nat.reduceEqDiff, Nat.reduceLT, Nat.reduceLeDiff, Nat.reduceAdd, Nat.reduceMul, Nat.reduceSub, reduceCtorEq, Nat.reduceMod, Nat.reduceBEq, Int.reduceBEq, Int.reduceBNe, Int.reduceToNat]
          exact ⟨S', fun _ _ h => h, bad h1 (.inr (.inr (.inr c5)))⟩
         ·have k5 : ¬ (18 : Int) < d := by omega
          have h2 : ¬ (c < 48 ∨ 57 < c ∨ (0 < d ∧ n = 0) ∨ 18 < d) := by omega
          obtain ⟨⟨w1, w2⟩, w3, w4, w5⟩ := step h1 h2
          obtain ⟨g1, g2, g3⟩ := ok h1 h2
          simp -implicitDefEqProofs only [go_sem, ↓reduceIte, Nat.reduceEqDiff, Nat.reduceLT, Nat.reduceLeDiff, Nat.reduceAdd, Nat.reduceMul, Nat.reduceSub, reduceCtorEq, Nat.reduceMod, Nat.reduceBEq, Int.reduceBEq, Int.reduceBNe, Int.reduceToNat, e0, e4, e5, e6, e10, hlt, ← hc, ← hwd, q0, q1, k1, k2, k3, k4, k5, w1, w2, w3, w4, w5]
          refine vnext hJ hM S' (fun _ _ h => h) ⟨rfl, pos + wd, neg, 10 * n + (c - 48), d + 1, g1, g2, g3, ?_, ?_, ?_, ?_, ?_⟩ ?_
          ·simp -implicitDefEqProofs only [go_sem, ↓reduceIte, Nat.reduceEqDiff, e0]
          ·simp -implicitDefEqProofs only [go_sem, ↓reduceIte, Nat.reduceEqDiff, e4]
          ·simp -implicitDefEqProofs only [go_sem, ↓reduceIte, Nat.reduceEqDiff]
          ·simp -implicitDefEqProofs only [go_sem, ↓reduceIte, Nat.reduceEqDiff]
          ·simp -implicitDefEqProofs only [go_sem, ↓reduceIte, Nat.reduceEqDiff]
          ·simp -implicitDefEqProofs only [go_sem, ↓reduceIte, Nat.reduceEqDiff, e10]
           omega
       ·have k3 : ¬ (0 : Int) < d := by omega
        have k5 : ¬ (18 : Int) < d := by omega
        have h2 : ¬ (c < 48 ∨ 57 < c ∨ (0 < d ∧ n = 0) ∨ 18 < d) := by omega
        obtain ⟨⟨w1, w2⟩, w3, w4, w5⟩ := step h1 h2
        obtain ⟨g1, g2, g3⟩ := ok h1 h2
        simp -implicitDefEqProofs only [go_sem, ↓reduceIte, Nat.reduceEqDiff, Nat.reduceLT, Nat.reduceLeDiff, Nat.reduceAdd, Nat.reduceMul, Nat.reduceSub, reduceCtorEq, Nat.reduceMod, Nat.reduceBEq, Int.reduceBEq, Int.reduceBNe, Int.reduceToNat, e0, e4, e5, e6, e10, hlt, ← hc, ← hwd, q0, q1, k1, k2, k3, k5, w1, w2, w3, w4, w5]
        refine vnext hJ hM S' (fun _ _ h => h) ⟨rfl, pos + wd, neg, 10 * n + (c - 48), d + 1, g1, g2, g3, ?_, ?_, ?_, ?_, ?_⟩ ?_
        ·simp -implicitDefEqProofs only [go_sem, ↓reduceIte, Nat.reduceEqDiff, e0]
        ·simp -implicitDefEqProofs only [go_sem, ↓reduceIte, Nat.reduceEqDiff, e4]
        ·simp -implicitDefEqProofs only [go_sem, ↓reduceIte, Nat.reduceEqDiff]
        ·simp -implicitDefEqProofs only [go_sem, ↓reduceIte, Nat.reduceEqDiff]
        ·simp -implicitDefEqProofs only [go_sem, ↓reduceIte, Nat.reduceEqDiff]
        ·simp -implicitDefEqProofs only [go_sem, ↓reduceIte, Nat.reduceEqDiff, e10]
         omega
   ·have q0 : ((pos : Int) == 0) = false := by simp; omega
    have h1 : ¬ (pos = 0 ∧ c = 45 ∧ 1 < s.size) := fun h => p0 h.1
    by_cases c1 : c < 48
    ·have k1 : (c : Int) < 48 := by omega
     simp -implicitDefEqProofs only [go_sem, ↓reduceIte, Nat.reduceEqDiff, Nat.reduceLT, Nat.reduceLeDiff, Nat.reduceAdd, Nat.reduceMul, Nat.reduceSub, reduceCtorEq, Nat.reduceMod, Nat.reduceBEq, Int.reduceBEq, Int.reduceBNe, Int.reduceToNat, e0, e4, e5, e6, e10, hlt, ← hc, ← hwd, q0, k1]
     refine hQ _ _ _ ?_
     simp -implicitDefEqProofs only [go_sem, ↓reduceIte, Nat.reduceEqDiff, Nat.reduceLT, Nat.reduceLeDiff, Nat.reduceAdd, Nat.reduceMul, Nat.reduceSub, reduceCtorEq, Nat.reduceMod, Nat.reduceBEq, Int.reduceBEq, Int.reduceBNe, Int.reduceToNat]
     exact ⟨S', fun _ _ h => h, bad h1 (.inl c1)⟩
    ·have k1 : ¬ (c : Int) < 48 := by omega
     by_cases c2 : 57 < c
     ·have k2 : (57 : Int) < c := by omega
      simp -implicitDefEqProofs only [go_sem, ↓reduceIte, Nat.reduceEqDiff, Nat.reduceLT, Nat.reduceLeDiff, Nat.reduceAdd, Nat.reduceMul, Nat.reduceSub, reduceCtorEq, Nat.reduceMod, Nat.reduceBEq, Int.reduceBEq, Int.reduceBNe, Int.reduceToNat, e0, e4, e5, e6, e10, hlt, ← hc, ← hwd, q0, k1, k2]
      refine hQ _ _ _ ?_
      simp -implicitDefEqProofs only [go_sem, ↓reduceIte, Nat.reduceEqDiff, Nat.reduceLT, Nat.reduceLeDiff, Nat.reduceAdd, Nat.reduceMul, Nat.reduceSub, reduceCtorEq, Nat.reduceMod, Nat.reduceBEq, Int.reduceBEq, Int.reduceBNe, Int.reduceToNat]
      exact ⟨S', fun _ _ h => h, bad h1 (.inr (.inl c2))⟩
     ·have k2 : ¬ (57 : Int) < c := by omega
      by_cases c3 : 0 < d
      ·have k3 : (0 : Int) < d := by omega
       by_cases c4 : n = 0
       ·have k4 : ((n : Int) == 0) = true := by rw [c4]; rfl
        simp -implicitDefEqProofs only [go_sem, ↓reduceIte, Nat.reduceEqDiff, Nat.reduceLT, Nat.reduceLeDiff, Nat.reduceAdd, Nat.reduceMul, Nat.reduceSub, reduceCtorEq, Nat.reduceMod, Nat.reduceBEq, Int.reduceBEq, Int.reduceBNe, Int.reduceToNat, e0, e4, e5, e6, e10, hlt, ← hc, ← hwd, q0, k1, k2, k3, k4]
        refine hQ _ _ _ ?_
        simp -implicitDefEqProofs only [go_sem, ↓reduceIte, Nat.reduceEqDiff, Nat.reduceLT, Nat.reduceLeDiff, Nat.reduceAdd, Nat.reduceMul, Nat.reduceSub, reduceCtorEq, Nat.reduceMod, Nat.reduceBEq, Int.reduceBEq, Int.reduceBNe, Int.reduceToNat]
        exact ⟨S', fun _ _ h => h, bad h1 (.inr (.inr (.inl ⟨c3, c4⟩)))⟩
       ·have k4 : ((n : Int) == 0) = false := by simp; omega
        by_cases c5 : 18 < d
        ·have k5 : (18 : Int) < d := by omega
         simp -implicitDefEqProofs only [go_sem, ↓reduceIte, Nat.reduceEqDiff, Nat.reduceLT, Nat.reduceLeDiff, Nat.reduceAdd, Nat.reduceMul, Nat.reduceSub, reduceCtorEq, Nat.reduceMod, Nat.reduceBEq, Int.reduceBEq, Int.reduceBNe, Int.reduceToNat, e0, e4, e5, e6, e10, hlt, ← hc, ← hwd, q0, k1, k2, k3, k4, k5]
         refine hQ _ _ _ ?_
         simp -implicitDefEqProofs only [go_sem, ↓reduceIte, Nat.reduceEqDiff, Nat.reduceLT, Nat.reduceLeDiff, Nat.reduceAdd, Nat.reduceMul, Nat.reduceSub, reduceCtorEq, Nat.reduceMod, Nat.reduceBEq, Int.reduceBEq, Int.reduceBNe, Int.reduceToNat]
         exact ⟨S', fun _ _ h => h, bad h1 (.inr (.inr (.inr c5)))⟩
        ·have k5 : ¬ (18 : Int) < d := by omega
         have h2 : ¬ (c < 48 ∨ 57 < c ∨ (0 < d ∧ n = 0) ∨ 18 < d) := by omega
         obtain ⟨⟨w1, w2⟩, w3, w4, w5⟩ := step h1 h2
         obtain ⟨g1, g2, g3⟩ := ok h1 h2
         simp -implicitDefEqProofs only [go_sem, ↓reduceIte, Nat.reduceEqDiff, Nat.reduceLT, Nat.reduceLeDiff, Nat.reduceAdd, Nat.reduceMul, Nat.reduceSub, reduceCtorEq, Nat.reduceMod, Nat.reduceBEq, Int.reduceBEq, Int.reduceBNe, Int.reduceToNat, e0, e4, e5, e6, e10, hlt, ← hc, ← hwd, q0, k1, k2, k3, k4, k5, w1, w2, w3, w4, w5]
         refine vnext hJ hM S' (fun _ _ h => h) ⟨rfl, pos + wd, neg, 10 * n + (c - 48), d + 1, g1, g2, g3, ?_, ?_, ?_, ?_, ?_⟩ ?_
         ·simp -implicitDefEqProofs only [go_sem, ↓reduceIte, Nat.reduceEqDiff, e0]
         ·simp -implicitDefEqProofs only [go_sem, ↓reduceIte, Nat.reduceEqDiff, e4]
         ·simp -implicitDefEqProofs only [go_sem, ↓reduceIte, Nat.reduceEqDiff]
         ·simp -implicitDefEqProofs only [go_sem, ↓reduceIte, Nat.reduceEqDiff]
         ·simp -implicitDefEqProofs only [go_sem, ↓reduceIte, Nat.reduceEqDiff]
         ·simp -implicitDefEqProofs only [go_sem, ↓reduceIte, Nat.reduceEqDiff, e10]
          omega
      ·have k3 : ¬ (0 : Int) < d := by omega
       have k5 : ¬ (18 : Int) < d := by omega
       have h2 : ¬ (c < 48 ∨ 57 < c ∨ (0 < d ∧ n = 0) ∨ 18 < d) := by omega
       obtain ⟨⟨w1, w2⟩, w3, w4, w5⟩ := step h1 h2
       obtain ⟨g1, g2, g3⟩ := ok h1 h2
       simp -implicitDefEqProofs only [go_sem, ↓reduceIte, Nat.reduceEqDiff, Nat.reduceLT, Nat.reduceLeDiff, Nat.reduceAdd, Nat.reduceMul, Nat.reduceSub, reduceCtorEq, Nat.reduceMod, Nat.reduceBEq, Int.reduceBEq, Int.reduceBNe, Int.reduceToNat, e0, e4, e5, e6, e10, hlt, ← hc, ← hwd, q0, k1, k2, k3, k5, w1, w2, w3, w4, w5]
       refine vnext hJ hM S' (fun _ _ h => h) ⟨rfl, pos + wd, neg, 10 * n + (c - 48), d + 1, g1, g2, g3, ?_, ?_, ?_, ?_, ?_⟩ ?_
       ·simp -implicitDefEqProofs only [go_sem, ↓reduceIte, Nat.reduceEqDiff, e0]
       ·simp -implicitDefEqProofs only [go_sem, ↓reduceIte, Nat.reduceEqDiff, e4]
       ·simp -implicitDefEqProofs only [go_sem, ↓reduceIte, Nat.reduceEqDiff]
       ·simp -implicitDefEqProofs only [go_sem, ↓reduceIte, Nat.reduceEqDiff]
       ·simp -implicitDefEqProofs only [go_sem, ↓reduceIte, Nat.reduceEqDiff]
       ·simp -implicitDefEqProofs only [go_sem, ↓reduceIte, Nat.reduceEqDiff, e10]
        omega
  ·rw [numL_end hlt] at hr
   rw [hr] at hK
   unfold numE at hK
   dsimp only at hK
   simp -implicitDefEqProofs only [go_sem, ↓reduceIte, Nat.reduceEqDiff, Nat.reduceLT, Nat.reduceLeDiff, Nat.reduceAdd, Nat.reduceMul, Nat.reduceSub, reduceCtorEq, Nat.reduceMod, Nat.reduceBEq, Int.reduceBEq, Int.reduceBNe, Int.reduceToNat, e10, hlt]
   refine hQ _ _ _ ?_
   by_cases z0 : d = 0
   ·have k0 : ((d : Int) == 0) = true := by rw [z0]; rfl
    rw [if_pos (.inl z0)] at hK
    simp -implicitDefEqProofs only [go_sem, ↓reduceIte, Nat.reduceEqDiff, Nat.reduceLT, Nat.reduceLeDiff, Nat.reduceAdd, Nat.reduceMul, Nat.reduceSub, reduceCtorEq, Nat.reduceMod, Nat.reduceBEq, Int.reduceBEq, Int.reduceBNe, Int.reduceToNat, e4, e5, e6, k0]
    exact ⟨S', fun _ _ h => h, hK⟩
   ·have k0 : ((d : Int) == 0) = false := by simp; omega
    by_cases z2 : 9223372036854775807 < n
    ·have k2 : (9223372036854775807 : Int) < (n : Int) := by omega
     have k1 : ((n : Int) == 0) = false := by simp; omega
     cases neg
     ·rw [if_neg (by simp; omega), if_neg (by simp), if_pos z2] at hK
      simp -implicitDefEqProofs only [go_sem, ↓reduceIte, Nat.reduceEqDiff, Nat.reduceLT, Nat.reduceLeDiff, Nat.reduceAdd, Nat.reduceMul, Nat.reduceSub, reduceCtorEq, Nat.reduceMod, Nat.reduceBEq, Int.reduceBEq, Int.reduceBNe, Int.reduceToNat, e4, e5, e6, k0, k1, k2]
      exact ⟨S', fun _ _ h => h, hK⟩
     ·by_cases z3 : n ≤ 9223372036854775808
      ·have k3 : (n : Int) ≤ 9223372036854775808 := by omega
       have hn' : n = 9223372036854775808 := by omega
       rw [if_neg (by simp; omega), if_pos ⟨rfl, z3⟩] at hK
       subst hn'
       have w1 : IntKind.i64.wrap (0 - IntKind.i64.wrap (((9223372036854775808 : Nat) : Int))) = -((9223372036854775808 : Nat) : Int) := by decide
       simp -implicitDefEqProofs only [go_sem, ↓reduceIte, Nat.reduceEqDiff, Nat.reduceLT, Nat.reduceLeDiff, Nat.reduceAdd, Nat.reduceMul, Nat.reduceSub, reduceCtorEq, Nat.reduceMod, Nat.reduceBEq, Int.reduceBEq, Int.reduceBNe, Int.reduceToNat, e4, e5, e6, k0, k1, k3, w1]
       exact ⟨S', fun _ _ h => h, hK⟩
      ·have k3 : ¬ (n : Int) ≤ 9223372036854775808 := by omega
       rw [if_neg (by simp; omega), if_neg (by simp; omega), if_pos z2] at hK
       simp -implicitDefEqProofs only [go_sem, ↓reduceIte, Nat.reduceEqDiff, Nat.reduceLT, Nat.reduceLeDiff, Nat.reduceAdd, Nat.reduceMul, Nat.reduceSub, reduceCtorEq, Nat.reduceMod, Nat.reduceBEq, Int.reduceBEq, Int.reduceBNe, Int.reduceToNat, e4, e5, e6, k0, k1, k2, k3]
       exact ⟨S', fun _ _ h => h, hK⟩
    ·have k2 : ¬ (9223372036854775807 : Int) < (n : Int) := by omega
     have w0 : IntKind.i64.wrap (n : Int) = (n : Int) := wrap64 (by omega) (by omega)
     cases neg
     ·rw [if_neg (by simp; omega), if_neg (by simp), if_neg z2] at hK
      simp -implicitDefEqProofs only [go_sem, ↓reduceIte, Nat.reduceEqDiff, Nat.reduceLT, Nat.reduceLeDiff, Nat.reduceAdd, Nat.reduceMul, Nat.reduceSub, reduceCtorEq, Nat.reduceMod, Nat.reduceBEq, Int.reduceBEq, Int.reduceBNe, Int.reduceToNat, e4, e5, e6, k0, k2, w0]
      exact ⟨S', fun _ _ h => h, hK⟩
     ·by_cases z1 : n = 0
      ·have k1 : ((n : Int) == 0) = true := by rw [z1]; rfl
       rw [if_pos (.inr ⟨rfl, z1⟩)] at hK
       simp -implicitDefEqProofs only [go_sem, ↓reduceIte, Nat.reduceEqDiff, Nat.reduceLT, Nat.reduceLeDiff, Nat.reduceAdd, Nat.reduceMul, Nat.reduceSub, reduceCtorEq, Nat.reduceMod, Nat.reduceBEq, Int.reduceBEq, Int.reduceBNe, Int.reduceToNat, e4, e5, e6, k0, k1]
       exact ⟨S', fun _ _ h => h, hK⟩
      ·have k1 : ((n : Int) == 0) = false := by simp; omega
       have k3 : (n : Int) ≤ 9223372036854775808 := by omega
       have w1 : IntKind.i64.wrap (0 - (n : Int)) = -(n : Int) := by rw [wrap64 (by omega) (by omega)]; omega
       rw [if_neg (by simp; omega), if_pos ⟨rfl, by omega⟩] at hK
       simp -implicitDefEqProofs only [go_sem, ↓reduceIte, Nat.reduceEqDiff, Nat.reduceLT, Nat.reduceLeDiff, Nat.reduceAdd, Nat.reduceMul, Nat.reduceSub, reduceCtorEq, Nat.reduceMod, Nat.reduceBEq, Int.reduceBEq, Int.reduceBNe, Int.reduceToNat, e4, e5, e6, k0, k1, k3, w0, w1]
       exact ⟨S', fun _ _ h => h, hK⟩

/-! ### sums -/
def hi32 (n : Int) : Int := n.fdiv 4294967296
def lo32 (n : Int) : Int := IntKind.i64.wrap (BitVec.ofInt 64 n &&& BitVec.ofInt 64 4294967295).toNat
theorem shr32 (a : Int) (k : IntKind) : pbin .shr (.int .i64 a) (.int k 32) = some (.int .i64 (hi32 a)) := by
 have h1 : min ((32 : Int)).toNat IntKind.i64.bits = 32 := by decide
 unfold pbin
 dsimp only
 rw [if_neg (by decide), h1]
 rfl
theorem shl32 (a : Int) (k : IntKind) : pbin .shl (.int .i64 a) (.int k 32) = some (.int .i64 (IntKind.i64.wrap (a * 4294967296))) := by
 have h1 : min ((32 : Int)).toNat IntKind.i64.bits = 32 := by decide
 unfold pbin
 dsimp only
 rw [if_neg (by decide), h1]
 rfl
theorem and32 (a : Int) : IntKind.i64.wrap (BitVec.ofInt IntKind.i64.bits a &&& BitVec.ofInt IntKind.i64.bits 4294967295).toNat = lo32 a := rfl
def addF (t : Int × Int) (n sign : Int) : Int × Int := (IntKind.i64.wrap (t.1 + IntKind.i64.wrap (sign * hi32 n)), IntKind.i64.wrap (t.2 + IntKind.i64.wrap (sign * lo32 n)))
def topF (t : Int × Int) : Int := IntKind.i64.wrap (t.1 + hi32 t.2)
def fitF (t : Int × Int) : Bool := !(decide (topF t < -2147483648) || decide (2147483648 ≤ topF t))
def valF (t : Int × Int) : Int := IntKind.i64.wrap (BitVec.ofInt 64 (IntKind.i64.wrap (topF t * 4294967296)) ||| BitVec.ofInt 64 (lo32 t.2)).toNat
theorem add_spec (t : Int × Int) (n sign : Int) (S : Store) : PRet Tryz.prog 96 [.agg [.int .i64 t.1, .int .i64 t.2], .int .i64 n, .int .i64 sign] S (.agg [.int .i64 (addF t n sign).1, .int .i64 (addF t n sign).2]) := by
 intro K hK
 refine pcalls_of (C := C) (fun _ => false) (fun _ => false) Tryz.func96 rfl rfl (by simp [Tryz.f96]) ?_
 simp -implicitDefEqProofs only [go_sem, ↓reduceIte, Nat.reduceEqDiff, Nat.reduceLT, Nat.reduceLeDiff, Nat.reduceAdd, Nat.reduceMul, Nat.reduceSub, reduceCtorEq, Nat.reduceMod, Nat.reduceBEq, Int.reduceBEq, Int.reduceBNe, Int.reduceToNat, Tryz.f96, shr32, and32]
 exact ⟨S, fun _ _ h => h, hK⟩
theorem whole_spec (t : Int × Int) (S : Store) : PRet Tryz.prog 83 [.agg [.int .i64 t.1, .int .i64 t.2]] S (if fitF t then .tup [.int .i64 (valF t), .bool true] else .tup [.int .i64 0, .bool false]) := by
 intro K hK
 refine pcalls_of (C := C) (fun _ => false) (fun _ => false) Tryz.func83 rfl rfl (by simp [Tryz.f83]) ?_
 unfold fitF topF at hK
 by_cases h1 : IntKind.i64.wrap (t.1 + hi32 t.2) < -2147483648
 ·rw [decide_eq_true h1] at hK
  simp -implicitDefEqProofs only [go_sem, ↓reduceIte, Nat.reduceEqDiff, Nat.reduceLT, Nat.reduceLeDiff, Nat.reduceAdd, Nat.reduceMul, Nat.reduceSub, reduceCtorEq, Nat.reduceMod, Nat.reduceBEq, Int.reduceBEq, Int.reduceBNe, Int.reduceToNat, Tryz.f83, shr32, h1]
  exact ⟨S, fun _ _ h => h, hK⟩
 ·by_cases h2 : 2147483648 ≤ IntKind.i64.wrap (t.1 + hi32 t.2)
  ·rw [decide_eq_false h1, decide_eq_true h2] at hK
   simp -implicitDefEqProofs only [go_sem, ↓reduceIte, Nat.reduceEqDiff, Nat.reduceLT, Nat.reduceLeDiff, Nat.reduceAdd, Nat.reduceMul, Nat.reduceSub, reduceCtorEq, Nat.reduceMod, Nat.reduceBEq, Int.reduceBEq, Int.reduceBNe, Int.reduceToNat, Tryz.f83, shr32, h1, h2]
   exact ⟨S, fun _ _ h => h, hK⟩
  ·rw [decide_eq_false h1, decide_eq_false h2] at hK
   simp -implicitDefEqProofs only [go_sem, ↓reduceIte, Nat.reduceEqDiff, Nat.reduceLT, Nat.reduceLeDiff, Nat.reduceAdd, Nat.reduceMul, Nat.reduceSub, reduceCtorEq, Nat.reduceMod, Nat.reduceBEq, Int.reduceBEq, Int.reduceBNe, Int.reduceToNat, Tryz.f83, shr32, shl32, and32, h1, h2]
   exact ⟨S, fun _ _ h => h, hK⟩
end Go.Proofs.YtdioedabjaaboaaGreat.V
