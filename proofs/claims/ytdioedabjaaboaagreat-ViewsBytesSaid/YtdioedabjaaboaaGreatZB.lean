/- Bytes of views: numbers and texts, written. -/
import Derived.Test.YtdioedabjaaboaaGreatZA
set_option linter.unusedVariables false
set_option linter.unusedSimpArgs false
namespace Go.Proofs.YtdioedabjaaboaaGreat.V
open Go Go.VL

theorem digs_more : ∀ (k n : Nat), k < (digs n).length ↔ 0 < n / 256 ^ k
 | 0, n => by
  by_cases h0 : n = 0
  ·subst h0; rw [digs_zero]; simp
  ·rw [digs_pos h0]; simp; omega
 | k + 1, n => by
  by_cases h0 : n = 0
  ·subst h0; rw [digs_zero]; simp
  ·rw [digs_pos h0, List.length_append, show n / 256 ^ (k + 1) = n / 256 / 256 ^ k by rw [Nat.pow_succ, Nat.mul_comm, Nat.div_div_eq_div_mul], ← digs_more k (n / 256)]
   simp only [List.length_cons, List.length_nil]
   omega
theorem ofNat_mod (n : Nat) : UInt8.ofNat (n % 256) = UInt8.ofNat n := by
 apply UInt8.toNat.inj
 simp
theorem digs_get : ∀ (i n : Nat), i < (digs n).length → (digs n)[(digs n).length - 1 - i]? = some (UInt8.ofNat (n / 256 ^ i))
 | 0, n, h => by
  have h0 : n ≠ 0 := fun e => by subst e; rw [digs_zero] at h; simp at h
  rw [digs_pos h0]
  simp [ofNat_mod]
 | i + 1, n, h => by
  have h0 : n ≠ 0 := fun e => by subst e; rw [digs_zero] at h; simp at h
  have hl : (digs n).length = (digs (n / 256)).length + 1 := by rw [digs_pos h0]; simp
  have h1 := digs_get i (n / 256) (by omega)
  rw [Nat.div_div_eq_div_mul, ← Nat.pow_succ'] at h1
  rw [hl, digs_pos h0, show (digs (n / 256)).length + 1 - 1 - (i + 1) = (digs (n / 256)).length - 1 - i by omega, List.getElem?_append_left (by omega)]
  exact h1
theorem shr_of (n k : Nat) (hk : k ≤ 8) : pbin .shr (.int .i64 (n : Int)) (.int .i64 (((8 * k : Nat)) : Int)) = some (.int .i64 ((n / 256 ^ k : Nat) : Int)) := by
 have h0 : ¬ ((8 * k : Nat) : Int) < 0 := by omega
 have h1 : min ((8 * k : Nat) : Int).toNat IntKind.i64.bits = 8 * k := by
  have : IntKind.i64.bits = 64 := rfl
  rw [this]
  omega
 have h2 : (2 : Int) ^ (8 * k) = ((256 ^ k : Nat) : Int) := by
  rw [Nat.pow_mul' 2 8 k |> fun _ => show (256 : Nat) ^ k = 2 ^ (8 * k) by rw [Nat.pow_mul]]
  simp
 unfold pbin
 dsimp only
 rw [if_neg h0, h1, h2, Int.fdiv_eq_ediv_of_nonneg _ (Int.natCast_nonneg _)]
 rfl
theorem mul8 (k : Nat) (hk : k ≤ 1000) : IntKind.i64.wrap (8 * (k : Int)) = ((8 * k : Nat) : Int) := by
 rw [wrap64 (by omega) (by omega)]
 omega
theorem wrapI (x : Int) (h1 : -9223372036854775808 ≤ x) (h2 : x ≤ 9223372036854775807) : IntKind.i64.wrap x = x := wrap64 h1 h2
def iv1 : PV → Nat
 | .int _ k => (k + 1).toNat
 | _ => 0
theorem iv1_int {k : IntKind} {z : Int} : iv1 (.int k z) = (z + 1).toNat := rfl
attribute [go_sem] iv1_int
set_option maxHeartbeats 1000000 in
theorem wnumber_spec (b : List UInt8) (z : Int) (n : Nat) (hz : (n : Int) = if 0 < z then z else 0) (hn : n < 9223372036854775808) (hb : b.length ≤ 185000000000000) (S : Store) : PRet Tryz.prog 71 [.sl .no 1 (encB b), .int .i64 z] S (.sl .tail 1 (encB (b ++ numB n))) := by
 intro K hK
 refine pcalls_of (C := C) (fun d => d == 6 || d == 39 || d == 47 || d == 4) (fun _ => false) Tryz.func71 rfl rfl (by simp [Tryz.f71]) ?_
 have hmax : (if (0 : Int) < z then z else 0) = (n : Int) := hz.symm
 have hmax2 : (if z < (0 : Int) then (0 : Int) else z) = (n : Int) := by rw [hz]; split <;> split <;> omega
 have hdl := digs8 hn
 simp -implicitDefEqProofs only [go_sem, ↓reduceIte, Nat.reduceEqDiff, Nat.reduceLT, Nat.reduceLeDiff, Nat.reduceAdd, Nat.reduceMul, Nat.reduceSub, reduceCtorEq, Nat.reduceMod, Nat.reduceBEq, Int.reduceBEq, Int.reduceBNe, Int.reduceToNat, Tryz.f71, hmax, hmax2]
 refine vloop (fun e S' => S' = S ∧ ∃ k : Nat, k ≤ (digs n).length ∧ e 0 = .sl .no 1 (encB b) ∧ e 1 = .int .i64 n ∧ e 5 = .int .i64 k) (fun e _ => 9 - iv (e 5)) ?_ ?_
 ·exact ⟨rfl, 0, Nat.zero_le _, rfl, rfl, rfl⟩
 ·rintro J M Q' hJ hM hQ e S' ⟨rfl, k, hk, e0, e1, e5⟩
  have hs := shr_of n k (by omega)
  have hm := mul8 k (by omega)
  by_cases h0 : k < (digs n).length
  ·have d0 : (k : Int) < 8 := by omega
   have d1 : (0 : Int) < ((n / 256 ^ k : Nat) : Int) := by have := (digs_more k n).1 h0; omega
   have hw : IntKind.i64.wrap ((k : Int) + 1) = ((k + 1 : Nat) : Int) := wrap64 (by omega) (by omega)
   simp -implicitDefEqProofs only [go_sem, ↓reduceIte, Nat.reduceEqDiff, Nat.reduceLT, Nat.reduceLeDiff, Nat.reduceAdd, Nat.reduceMul, Nat.reduceSub, reduceCtorEq, Nat.reduceMod, Nat.reduceBEq, Int.reduceBEq, Int.reduceBNe, Int.reduceToNat, e0, e1, e5, d0, hm, hs, d1, hw]
   refine vnext hJ hM S' (fun _ _ h => h) ⟨rfl, k + 1, h0, ?_, ?_, ?_⟩ ?_
   ·simp -implicitDefEqProofs only [go_sem, ↓reduceIte, Nat.reduceEqDiff, e0]
   ·simp -implicitDefEqProofs only [go_sem, ↓reduceIte, Nat.reduceEqDiff, e1]
   ·simp -implicitDefEqProofs only [go_sem, ↓reduceIte, Nat.reduceEqDiff]
   ·simp -implicitDefEqProofs only [go_sem, ↓reduceIte, Nat.reduceEqDiff, e5]
    omega
  ·have hke : k = (digs n).length := by omega
   have d1 : ¬ (0 : Int) < ((n / 256 ^ k : Nat) : Int) := by have := mt (digs_more k n).2 h0; omega
   have w1 : IntKind.i64.wrap ((b.length : Int) + k) = ((b.length + k : Nat) : Int) := wrap64 (by omega) (by omega)
   have w2 : IntKind.i64.wrap (((b.length + k : Nat) : Int) + 1) = ((b.length + k + 1 : Nat) : Int) := wrap64 (by omega) (by omega)
   have w3 : IntKind.i64.wrap ((k : Int) - 1) = (k : Int) - 1 := wrapI _ (by omega) (by omega)
   subst hke
   have a1 := small1 (k := 0 + b.length) (by omega)
   have a2 := small1 (k := b.length + 1) (by omega)
   rcases Decidable.em (((digs n).length : Int) < 8) with h8 | h8
   all_goals
    simp -implicitDefEqProofs only [go_sem, ↓reduceIte, Nat.reduceEqDiff, Nat.reduceLT, Nat.reduceLeDiff, Nat.reduceAdd, Nat.reduceMul, Nat.reduceSub, reduceCtorEq, Nat.reduceMod, Nat.reduceBEq, Int.reduceBEq, Int.reduceBNe, Int.reduceToNat, e0, e1, e5, h8, hm, hs, d1]
    refine hQ _ _ _ ?_
    simp -implicitDefEqProofs only [go_sem, ↓reduceIte, Nat.reduceEqDiff, Nat.reduceLT, Nat.reduceLeDiff, Nat.reduceAdd, Nat.reduceMul, Nat.reduceSub, reduceCtorEq, Nat.reduceMod, Nat.reduceBEq, Int.reduceBEq, Int.reduceBNe, Int.reduceToNat, e0, e1, e5, w1, w2, w3, a1, a2]
    refine ⟨⟨by omega, by omega, by omega⟩, ⟨by omega, by omega⟩, ?_⟩
    refine vloop (fun e S1 => S1 = S' ∧ ∃ j : Nat, j ≤ (digs n).length ∧ e 1 = .int .i64 n ∧ e 6 = .sl .tail 1 (encB (b ++ [UInt8.ofNat (digs n).length] ++ (digs n).take j)) ∧ e 7 = .int .i64 ((digs n).length - 1 - j : Int)) (fun e _ => iv1 (e 7)) ?_ ?_
    ·refine ⟨rfl, 0, Nat.zero_le _, ?_, ?_, ?_⟩
     ·simp -implicitDefEqProofs only [go_sem, ↓reduceIte, Nat.reduceEqDiff, e1]
     ·simp -implicitDefEqProofs only [go_sem, ↓reduceIte, Nat.reduceEqDiff]
      rw [byte_of]
      simp [encB]
     ·simp -implicitDefEqProofs only [go_sem, ↓reduceIte, Nat.reduceEqDiff]
      congr 1
      omega
    ·clear hQ hJ hM J M Q'
     rintro J M Q' hJ hM hQ e S1 ⟨rfl, j, hj, e1, e6, e7⟩
     have hll : (b ++ [UInt8.ofNat (digs n).length] ++ (digs n).take j).length = b.length + 1 + j := by simp; omega
     by_cases hlt : j < (digs n).length
     ·have d0 : (0 : Int) ≤ ((digs n).length - 1 - j : Int) := by omega
      have hi : ((digs n).length - 1 - j : Int) = (((digs n).length - 1 - j : Nat) : Int) := by omega
      generalize hI : (digs n).length - 1 - j = i at hi
      rw [hi] at e7 d0
      have hs := shr_of n i (by omega)
      have hm := mul8 i (by omega)
      have hg := digs_get i n (by omega)
      rw [show (digs n).length - 1 - i = j by omega] at hg
      have w4 : IntKind.i64.wrap ((i : Int) - 1) = (i : Int) - 1 := wrapI _ (by omega) (by omega)
      have r2 := byte_of (n / 256 ^ i)
      have a3 := small1 (k := b.length + 1 + j + 1) (by omega)
      simp -implicitDefEqProofs only [go_sem, ↓reduceIte, Nat.reduceEqDiff, Nat.reduceLT, Nat.reduceLeDiff, Nat.reduceAdd, Nat.reduceMul, Nat.reduceSub, reduceCtorEq, Nat.reduceMod, Nat.reduceBEq, Int.reduceBEq, Int.reduceBNe, Int.reduceToNat, e1, e6, e7, d0, hm, hs, r2, hll, a3, w4]
      refine vnext hJ hM S1 (fun _ _ h => h) ⟨rfl, j + 1, hlt, ?_, ?_, ?_⟩ ?_
      ·simp -implicitDefEqProofs only [go_sem, ↓reduceIte, Nat.reduceEqDiff, e1]
      ·simp -implicitDefEqProofs only [go_sem, ↓reduceIte, Nat.reduceEqDiff]
       rw [List.take_add_one, hg, ← List.append_assoc]
       simp [encB]
      ·simp -implicitDefEqProofs only [go_sem, ↓reduceIte, Nat.reduceEqDiff]
       congr 1
       omega
      ·simp -implicitDefEqProofs only [go_sem, ↓reduceIte, Nat.reduceEqDiff, e7]
       omega
     ·have hje : j = (digs n).length := by omega
      subst hje
      rw [List.take_of_length_le (Nat.le_refl _)] at e6
      have d0 : ¬ (0 : Int) ≤ ((digs n).length - 1 - (digs n).length : Int) := by omega
      simp -implicitDefEqProofs only [go_sem, ↓reduceIte, Nat.reduceEqDiff, Nat.reduceLT, Nat.reduceLeDiff, Nat.reduceAdd, Nat.reduceMul, Nat.reduceSub, reduceCtorEq, Nat.reduceMod, Nat.reduceBEq, Int.reduceBEq, Int.reduceBNe, Int.reduceToNat, e7, d0]
      refine hQ _ _ _ ?_
      simp -implicitDefEqProofs only [go_sem, ↓reduceIte, Nat.reduceEqDiff, Nat.reduceLT, Nat.reduceLeDiff, Nat.reduceAdd, Nat.reduceMul, Nat.reduceSub, reduceCtorEq, Nat.reduceMod, Nat.reduceBEq, Int.reduceBEq, Int.reduceBNe, Int.reduceToNat, e6]
      unfold numB at hK
      rw [show b ++ [UInt8.ofNat (digs n).length] ++ digs n = b ++ (UInt8.ofNat (digs n).length :: digs n) by simp]
      exact ⟨S1, fun _ _ h => h, hK⟩
theorem wtext_spec (b : List UInt8) (t : ByteArray) (ht : b.length + t.size ≤ 180000000000000) (S : Store) : PRet Tryz.prog 70 [.sl .no 1 (encB b), .str t] S (.sl .tail 1 (encB (b ++ textB t))) := by
 intro K hK
 refine pcalls_of (C := C) (fun d => d == 4) (fun _ => false) Tryz.func70 rfl rfl (by simp [Tryz.f70]) ?_
 simp -implicitDefEqProofs only [go_sem, ↓reduceIte, Nat.reduceEqDiff, Nat.reduceLT, Nat.reduceLeDiff, Nat.reduceAdd, Nat.reduceMul, Nat.reduceSub, reduceCtorEq, Nat.reduceMod, Nat.reduceBEq, Int.reduceBEq, Int.reduceBNe, Int.reduceToNat, Tryz.f70]
 refine wnumber_spec b t.size t.size (by split <;> omega) (by omega) (by omega) _ _ ?_
 have hn := numB_len (n := t.size) (by omega)
 have a1 := small1 (k := (b ++ numB t.size).length + t.size) (by rw [List.length_append]; omega)
 simp -implicitDefEqProofs only [go_sem, ↓reduceIte, Nat.reduceEqDiff, Nat.reduceLT, Nat.reduceLeDiff, Nat.reduceAdd, Nat.reduceMul, Nat.reduceSub, reduceCtorEq, Nat.reduceMod, Nat.reduceBEq, Int.reduceBEq, Int.reduceBNe, Int.reduceToNat, a1, bytes_of_str, encB_app]
 unfold textB at hK
 rw [← List.append_assoc] at hK
 exact ⟨S, fun _ _ h => h, hK⟩
end Go.Proofs.YtdioedabjaaboaaGreat.V
