/- Views: the document's numbers, walked. -/
import Derived.Test.YtdioedabjaaboaaGreatYB
set_option linter.unusedVariables false
set_option linter.unusedSimpArgs false
namespace Go.Proofs.YtdioedabjaaboaaGreat.V
open Go Go.VL

theorem numV_bad {s : ByteArray} (h : okD (bl s (dgs s)) = false) : numV s = 0 := by
 unfold numV; rw [if_neg (by rw [h]; decide)]
theorem numV_m0 : numV ⟨#[45, 48]⟩ = 0 := by decide +kernel
theorem valD_ge : ∀ (D : List Nat) (n : Nat), n ≤ valD n D
 | [], n => Nat.le_refl _
 | c :: D, n => Nat.le_trans (by unfold stp; omega) (valD_ge D (stp n c))
theorem wrapu8 {x : Int} (h1 : 0 ≤ x) (h2 : x < 256) : IntKind.u8.wrap x = x := by
 have : IntKind.u8.wrap x = x % 256 := by simp [IntKind.wrap, IntKind.bits, IntKind.signed]
 rw [this, Int.emod_eq_of_lt h1 h2]
set_option maxHeartbeats 8000000 in
/-- What stands behind the checks. -/
theorem RNumber_calls (s : ByteArray) (hs : s.size ≤ 1000000) (S : Store) (K : PV → Store → Prop) (hK : ∀ e : Int, K (.tup [.int .i64 (numF s).1, .int .i64 e]) S) : PCalls Tryz.prog 48 [.str s] S K := by
 rw [numV_eq] at hK
 refine pcalls_of (C := C) (fun _ => false) (fun _ => false) Tryz.func48 rfl rfl (by simp [Tryz.f48]) ?_
 obtain ⟨d, hd⟩ : ∃ d : ByteArray, d = (if dgs s = 1 then s.extract 1 s.size else s) := ⟨_, rfl⟩
 have hdz : d.size = s.size - dgs s := by
  rw [hd]
  unfold dgs
  split
  ·split
   ·rw [ByteArray.size_extract]; omega
   ·rename_i h; simp at h
  ·split
   ·rename_i h; simp at h
   ·rfl
 have hbl : bl d 0 = bl s (dgs s) := by
  rw [hd]
  by_cases h1 : dgs s = 1
  ·rw [if_pos h1, h1]
   unfold bl
   rw [List.drop_zero]
   congr 1
   show (s.extract 1 s.size).data.toList = _
   rw [ByteArray.data_extract, Array.toList_extract]
   simp only [List.extract_eq_take_drop]
   rw [List.take_of_length_le]
   rw [List.length_drop, Array.length_toList]
   exact Nat.le_refl _
  ·rw [if_neg h1]
   have : dgs s = 0 := by unfold dgs at h1 ⊢; split at h1 <;> simp_all
   rw [this]
 have hlen : (bl s (dgs s)).length = d.size := by rw [← hbl, bl_len]; omega
 by_cases hz : s.size = 0
 ·have c1 : ¬ (0 : Int) < (s.size : Int) := by omega
  have c2 : (s.size : Int) < 1 := by omega
  have hv : numV s = 0 := numV_bad (by unfold okD; rw [hlen, hdz, decide_eq_false (by omega)]; rfl)
  rw [hv] at hK
  simp -implicitDefEqProofs only [go_sem, ↓reduceIte, Nat.reduceEqDiff, Nat.reduceLT, Nat.reduceLeDiff, Nat.reduceAdd, Nat.reduceMul, Nat.reduceSub, reduceCtorEq, Nat.reduceMod, Nat.reduceBEq, Int.reduceBEq, Int.reduceBNe, Int.reduceToNat, Tryz.f48, gt_iff_lt, c1, c2, Bool.false_eq_true]
  exact ⟨S, fun _ _ h => h, hK _⟩
 have c1 : (0 : Int) < (s.size : Int) := by omega
 have c1' : (0 : Int) ≤ 0 ∧ (0 : Int) < (s.size : Int) := by omega
 have cases2 : (dgs s = 0 ∧ d = s ∧ (byteA s 0 == 45) = false) ∨ (dgs s = 1 ∧ d = s.extract 1 s.size ∧ (byteA s 0 == 45) = true) := by
  by_cases h : byN s 0 = 45
  ·right
   have h1 : dgs s = 1 := by unfold dgs; rw [if_pos ⟨by omega, h⟩]
   exact ⟨h1, by rw [hd, if_pos h1], by rw [byteA_N, h]; rfl⟩
  ·left
   have h1 : dgs s = 0 := by unfold dgs; rw [if_neg (fun g => h g.2)]
   exact ⟨h1, by rw [hd, if_neg (by omega)], by rw [byteA_N]; simpa using (by omega : ¬ ((byN s 0 : Nat) : Int) = 45)⟩
 clear hd
 have hi1 : (0 : Int) ≤ 1 ∧ (1 : Int) ≤ (s.size : Int) ∧ (s.size : Int) ≤ (s.size : Int) := by omega
 have hi0 : (0 : Int) ≤ (s.size : Int) := by omega
 have tn1 : (1 : Int).toNat = 1 := rfl
 have nodg : (bl d 0).all dg = false → numV s = 0 := fun h => numV_bad (by unfold okD; rw [← hbl, h, Bool.and_false])
 have hbl0 : 1 ≤ d.size → bl s (dgs s) = byN d 0 :: bl d 1 := fun h => by rw [← hbl]; exact bl_lt (by omega)
 have lead : 1 < d.size → (byteA d 0 == 48) = true → okD (bl s (dgs s)) = false := fun h h2 => by
  rw [byteA_N, beq_iff_eq] at h2
  have h3 : byN d 0 = 48 := by omega
  unfold okD
  rw [hlen, decide_eq_false (show ¬ d.size ≤ 1 by omega), hbl0 (by omega), List.headD_cons, h3]
  simp
 have okf : (d.size ≤ 1 ∨ ¬ (byteA d 0 == 48) = true) → (bl d 0).all dg = true → 1 ≤ d.size → d.size ≤ 19 → okD (bl s (dgs s)) = true := fun h h2 h3 h4 => by
  unfold okD
  rw [hlen, ← hbl, h2, decide_eq_true h3, decide_eq_true h4, bl_lt (show 0 < d.size by omega), List.headD_cons]
  simp only [Bool.true_and, Bool.and_true, Bool.or_eq_true, decide_eq_true_eq, bne_iff_ne]
  rcases h with h | h
  ·exact .inl h
  ·right
   intro h5
   apply h
   rw [byteA_N, h5]
   rfl
 have digs : (bl d 0).all dg = true → ∀ i, i < d.size → 48 ≤ byN d i ∧ byN d i ≤ 57 := fun h i hi => by
  rw [List.all_eq_true] at h
  have hm : byN d i ∈ bl d 0 := by
   have : bl d i = byN d i :: bl d (i + 1) := bl_lt hi
   have h2 : bl d i = (bl d 0).drop i := by unfold bl; rw [← List.map_drop, List.drop_drop, Nat.zero_add]
   have : byN d i ∈ (bl d 0).drop i := by rw [← h2, this]; exact List.mem_cons_self
   exact List.mem_of_mem_drop this
  have := h _ hm
  simpa [dg] using this
 rcases cases2 with ⟨hg, hd, hb0⟩ | ⟨hg, hd, hb0⟩
 ·simp -implicitDefEqProofs only [go_sem, ↓reduceIte, Nat.reduceEqDiff, Nat.reduceLT, Nat.reduceLeDiff, Nat.reduceAdd, Nat.reduceMul, Nat.reduceSub, reduceCtorEq, Nat.reduceMod, Nat.reduceBEq, Int.reduceBEq, Int.reduceBNe, Int.reduceToNat, Tryz.f48, gt_iff_lt, c1, c1', hb0, Bool.false_eq_true, Int.toNat_zero]
  rw [show PV.str s = PV.str d by rw [hd], show (s.size : Int) = (d.size : Int) by rw [hd]]
  by_cases k1 : (d.size : Int) < 1
  ·simp -implicitDefEqProofs only [go_sem, ↓reduceIte, Nat.reduceEqDiff, Nat.reduceLT, Nat.reduceLeDiff, Nat.reduceAdd, Nat.reduceMul, Nat.reduceSub, reduceCtorEq, Nat.reduceMod, Nat.reduceBEq, Int.reduceBEq, Int.reduceBNe, Int.reduceToNat, gt_iff_lt, k1]
   rw [numV_bad (by unfold okD; rw [hlen, decide_eq_false (by omega)]; rfl)] at hK
   exact ⟨S, fun _ _ h => h, hK _⟩
  by_cases k2 : (19 : Int) < (d.size : Int)
  ·simp -implicitDefEqProofs only [go_sem, ↓reduceIte, Nat.reduceEqDiff, Nat.reduceLT, Nat.reduceLeDiff, Nat.reduceAdd, Nat.reduceMul, Nat.reduceSub, reduceCtorEq, Nat.reduceMod, Nat.reduceBEq, Int.reduceBEq, Int.reduceBNe, Int.reduceToNat, gt_iff_lt, k1, k2, Bool.false_eq_true]
   rw [numV_bad (by unfold okD; rw [hlen, decide_eq_false (show ¬ d.size ≤ 19 by omega), Bool.and_false]; rfl)] at hK
   exact ⟨S, fun _ _ h => h, hK _⟩
  by_cases k3 : (1 : Int) < (d.size : Int)
  ·have k3i : (0 : Int) ≤ 0 ∧ (0 : Int) < (d.size : Int) := by omega
   by_cases k5 : (byteA d 0 == 48) = true
   ·simp -implicitDefEqProofs only [go_sem, ↓reduceIte, Nat.reduceEqDiff, Nat.reduceLT, Nat.reduceLeDiff, Nat.reduceAdd, Nat.reduceMul, Nat.reduceSub, reduceCtorEq, Nat.reduceMod, Nat.reduceBEq, Int.reduceBEq, Int.reduceBNe, Int.reduceToNat, gt_iff_lt, k1, k2, k3, k3i, k5, Bool.false_eq_true, Int.toNat_zero]
    rw [numV_bad (lead (by omega) k5)] at hK
    exact ⟨S, fun _ _ h => h, hK _⟩
   have k5f : (byteA d 0 == 48) = false := by simpa using k5
   have okk : (bl d 0).all dg = true → okD (bl s (dgs s)) = true := fun h => okf (.inr k5) h (by omega) (by omega)
   by_cases k4 : same d ⟨#[45, 48]⟩ = true
   ·have hv : numV s = 0 := by have he : d = ⟨#[45, 48]⟩ := same_iff.1 k4; rw [← hd, he]; exact numV_m0
    simp -implicitDefEqProofs only [go_sem, ↓reduceIte, Nat.reduceEqDiff, Nat.reduceLT, Nat.reduceLeDiff, Nat.reduceAdd, Nat.reduceMul, Nat.reduceSub, reduceCtorEq, Nat.reduceMod, Nat.reduceBEq, Int.reduceBEq, Int.reduceBNe, Int.reduceToNat, gt_iff_lt, k1, k2, k3, k3i, k5f, k4, Bool.false_eq_true, Int.toNat_zero]
    rw [hv] at hK
    exact ⟨S, fun _ _ h => h, hK _⟩
   have k4 : same d ⟨#[45, 48]⟩ = false := by simpa using k4
   simp -implicitDefEqProofs only [go_sem, ↓reduceIte, Nat.reduceEqDiff, Nat.reduceLT, Nat.reduceLeDiff, Nat.reduceAdd, Nat.reduceMul, Nat.reduceSub, reduceCtorEq, Nat.reduceMod, Nat.reduceBEq, Int.reduceBEq, Int.reduceBNe, Int.reduceToNat, gt_iff_lt, k1, k2, k3, k3i, k5f, k4, Bool.false_eq_true, Int.toNat_zero]
   refine vloop (fun e S' => S' = S ∧ ∃ k : Nat, k ≤ d.size ∧ (bl d 0).all dg = (bl d k).all dg ∧ e 0 = .str d ∧ e 4 = .str d ∧ e 5 = .int .i64 0 ∧ e 43 = .int .i64 d.size ∧ e 44 = .int .i64 k) (fun e _ => d.size - iv (e 44)) ?_ ?_
   ·exact ⟨rfl, 0, Nat.zero_le _, rfl, by simp -implicitDefEqProofs only [go_sem, ↓reduceIte, Nat.reduceEqDiff], by simp -implicitDefEqProofs only [go_sem, ↓reduceIte, Nat.reduceEqDiff], by simp -implicitDefEqProofs only [go_sem, ↓reduceIte, Nat.reduceEqDiff], by simp -implicitDefEqProofs only [go_sem, ↓reduceIte, Nat.reduceEqDiff], by simp -implicitDefEqProofs only [go_sem, ↓reduceIte, Nat.reduceEqDiff]⟩
   rintro J M Q' hJ hM hQ e S' ⟨rfl, k, hk, hr, e0, e4, e5, e43, e44⟩
   by_cases hlt : k < d.size
   ·have hlti : (k : Int) < (d.size : Int) := by omega
    have h0 : (0 : Int) ≤ (k : Int) ∧ (k : Int) < (d.size : Int) := by omega
    have hw : IntKind.i64.wrap ((k : Int) + 1) = ((k + 1 : Nat) : Int) := wrap64 (by omega) (by omega)
    rw [bl_lt hlt, List.all_cons] at hr
    by_cases q1 : byteA d k < 48
    ·simp -implicitDefEqProofs only [go_sem, ↓reduceIte, Nat.reduceEqDiff, Nat.reduceLT, Nat.reduceLeDiff, Nat.reduceAdd, Nat.reduceMul, Nat.reduceSub, reduceCtorEq, Nat.reduceMod, Nat.reduceBEq, Int.reduceBEq, Int.reduceBNe, Int.reduceToNat, e4, e43, e44, hlti, h0, Int.toNat_natCast, q1]
     refine hQ _ _ _ ?_
     simp -implicitDefEqProofs only [go_sem, ↓reduceIte, Nat.reduceEqDiff, Nat.reduceLT, Nat.reduceLeDiff, Nat.reduceAdd, Nat.reduceMul, Nat.reduceSub, reduceCtorEq, Nat.reduceMod, Nat.reduceBEq, Int.reduceBEq, Int.reduceBNe, Int.reduceToNat]
     have hq : dg (byN d k) = false := by rw [byteA_N] at q1; unfold dg; rw [decide_eq_false (by omega), Bool.false_and]
     rw [nodg (by rw [hr, hq]; rfl)] at hK
     exact ⟨_, fun _ _ h => h, hK _⟩
    by_cases q2 : 57 < byteA d k
    ·simp -implicitDefEqProofs only [go_sem, ↓reduceIte, Nat.reduceEqDiff, Nat.reduceLT, Nat.reduceLeDiff, Nat.reduceAdd, Nat.reduceMul, Nat.reduceSub, reduceCtorEq, Nat.reduceMod, Nat.reduceBEq, Int.reduceBEq, Int.reduceBNe, Int.reduceToNat, e4, e43, e44, hlti, h0, Int.toNat_natCast, q1, gt_iff_lt, q2, Bool.false_eq_true]
     refine hQ _ _ _ ?_
     simp -implicitDefEqProofs only [go_sem, ↓reduceIte, Nat.reduceEqDiff, Nat.reduceLT, Nat.reduceLeDiff, Nat.reduceAdd, Nat.reduceMul, Nat.reduceSub, reduceCtorEq, Nat.reduceMod, Nat.reduceBEq, Int.reduceBEq, Int.reduceBNe, Int.reduceToNat]
     have hq : dg (byN d k) = false := by rw [byteA_N] at q2; unfold dg; rw [decide_eq_false (show ¬ byN d k ≤ 57 by omega), Bool.and_false]
     rw [nodg (by rw [hr, hq]; rfl)] at hK
     exact ⟨_, fun _ _ h => h, hK _⟩
    have hq : dg (byN d k) = true := by rw [byteA_N] at q1 q2; unfold dg; rw [decide_eq_true (by omega), decide_eq_true (by omega)]; rfl
    simp -implicitDefEqProofs only [go_sem, ↓reduceIte, Nat.reduceEqDiff, Nat.reduceLT, Nat.reduceLeDiff, Nat.reduceAdd, Nat.reduceMul, Nat.reduceSub, reduceCtorEq, Nat.reduceMod, Nat.reduceBEq, Int.reduceBEq, Int.reduceBNe, Int.reduceToNat, e4, e43, e44, hlti, h0, Int.toNat_natCast, q1, gt_iff_lt, q2, Bool.false_eq_true, hw]
    refine vnext hJ hM S' (fun _ _ h => h) ⟨rfl, k + 1, hlt, by rw [hr, hq, Bool.true_and], ?_, ?_, ?_, ?_, ?_⟩ ?_
    ·simp -implicitDefEqProofs only [go_sem, ↓reduceIte, Nat.reduceEqDiff, e0]
    ·simp -implicitDefEqProofs only [go_sem, ↓reduceIte, Nat.reduceEqDiff, e4]
    ·simp -implicitDefEqProofs only [go_sem, ↓reduceIte, Nat.reduceEqDiff, e5]
    ·simp -implicitDefEqProofs only [go_sem, ↓reduceIte, Nat.reduceEqDiff, e43]
    ·simp -implicitDefEqProofs only [go_sem, ↓reduceIte, Nat.reduceEqDiff]
    ·simp -implicitDefEqProofs only [go_sem, ↓reduceIte, Nat.reduceEqDiff, e44, Int.toNat_natCast]
     omega
   have hnl : ¬ (k : Int) < (d.size : Int) := by omega
   have hall : (bl d 0).all dg = true := by rw [hr, bl_ge (by omega)]; rfl
   have hok : okD (bl s (dgs s)) = true := okk hall
   have hdig : ∀ i, i < d.size → 48 ≤ byN d i ∧ byN d i ≤ 57 := digs hall
   unfold numV at hK
   rw [if_pos hok, ← hbl] at hK
   simp -implicitDefEqProofs only [go_sem, ↓reduceIte, Nat.reduceEqDiff, Nat.reduceLT, Nat.reduceLeDiff, Nat.reduceAdd, Nat.reduceMul, Nat.reduceSub, reduceCtorEq, Nat.reduceMod, Nat.reduceBEq, Int.reduceBEq, Int.reduceBNe, Int.reduceToNat, e43, e44, hnl]
   refine hQ _ _ _ ?_
   simp -implicitDefEqProofs only [go_sem, ↓reduceIte, Nat.reduceEqDiff, Nat.reduceLT, Nat.reduceLeDiff, Nat.reduceAdd, Nat.reduceMul, Nat.reduceSub, reduceCtorEq, Nat.reduceMod, Nat.reduceBEq, Int.reduceBEq, Int.reduceBNe, Int.reduceToNat, e4]
   clear hQ hM hJ hr e43 e44
   refine vloop (fun e S'' => S'' = S' ∧ ∃ k m : Nat, k ≤ d.size ∧ m ≤ 9223372036854775808 ∧ valD 0 (bl d 0) = valD m (bl d k) ∧ e 0 = .str d ∧ e 4 = .str d ∧ e 5 = .int .i64 (-(m : Int)) ∧ e 59 = .int .i64 d.size ∧ e 60 = .int .i64 k) (fun e _ => d.size - iv (e 60)) ?_ ?_
   ·exact ⟨rfl, 0, 0, Nat.zero_le _, Nat.zero_le _, rfl, by simp -implicitDefEqProofs only [go_sem, ↓reduceIte, Nat.reduceEqDiff, e0], by simp -implicitDefEqProofs only [go_sem, ↓reduceIte, Nat.reduceEqDiff, e4], by simp -implicitDefEqProofs only [go_sem, ↓reduceIte, Nat.reduceEqDiff, e5]; rfl, by simp -implicitDefEqProofs only [go_sem, ↓reduceIte, Nat.reduceEqDiff, e4], by simp -implicitDefEqProofs only [go_sem, ↓reduceIte, Nat.reduceEqDiff]⟩
   rintro J2 M2 Q2 hJ2 hM2 hQ2 e2 S2 ⟨rfl, k2, m, hk2, hm, hr2, f0, f4, f5, f59, f60⟩
   by_cases hlt2 : k2 < d.size
   ·have hlti2 : (k2 : Int) < (d.size : Int) := by omega
    have h02 : (0 : Int) ≤ (k2 : Int) ∧ (k2 : Int) < (d.size : Int) := by omega
    have hw2 : IntKind.i64.wrap ((k2 : Int) + 1) = ((k2 + 1 : Nat) : Int) := wrap64 (by omega) (by omega)
    obtain ⟨g1, g2⟩ := hdig k2 hlt2
    rw [bl_lt hlt2] at hr2
    have hr3 : valD 0 (bl d 0) = valD (10 * m + (byN d k2 - 48)) (bl d (k2 + 1)) := hr2
    have hge := valD_ge (bl d (k2 + 1)) (10 * m + (byN d k2 - 48))
    have w1 : IntKind.u8.wrap (byteA d k2 - 48) = ((byN d k2 - 48 : Nat) : Int) := by rw [byteA_N, wrapu8 (by omega) (by omega)]; omega
    have w2 : IntKind.i64.wrap ((byN d k2 - 48 : Nat) : Int) = ((byN d k2 - 48 : Nat) : Int) := wrap64 (by omega) (by omega)
    generalize hv : byN d k2 - 48 = v at *
    have over : 9223372036854775808 < 10 * m + v → K (.tup [.int .i64 0, .int .i64 5]) S2 := fun h => by rw [if_pos (show 9223372036854775808 < valD 0 (bl d 0) by omega)] at hK; exact hK 5
    have w3 : 10 * m + v ≤ 9223372036854775808 → IntKind.i64.wrap (10 * -(m : Int)) = 10 * -(m : Int) := fun h => wrap64 (by omega) (by omega)
    have w4 : 10 * m + v ≤ 9223372036854775808 → IntKind.i64.wrap (10 * -(m : Int) - (v : Int)) = -((10 * m + v : Nat) : Int) := fun h => by rw [wrap64 (by omega) (by omega)]; omega
    by_cases p1 : 922337203685477580 < m
    ·have r1 : -(m : Int) < -922337203685477580 := by omega
     simp -implicitDefEqProofs only [go_sem, ↓reduceIte, Nat.reduceEqDiff, Nat.reduceLT, Nat.reduceLeDiff, Nat.reduceAdd, Nat.reduceMul, Nat.reduceSub, reduceCtorEq, Nat.reduceMod, Nat.reduceBEq, Int.reduceBEq, Int.reduceBNe, Int.reduceToNat, f4, f5, f59, f60, hlti2, h02, Int.toNat_natCast, w1, w2, r1, gt_iff_lt, Bool.false_eq_true]
     refine hQ2 _ _ _ ?_
     simp -implicitDefEqProofs only [go_sem, ↓reduceIte, Nat.reduceEqDiff, Nat.reduceLT, Nat.reduceLeDiff, Nat.reduceAdd, Nat.reduceMul, Nat.reduceSub, reduceCtorEq, Nat.reduceMod, Nat.reduceBEq, Int.reduceBEq, Int.reduceBNe, Int.reduceToNat]
     exact ⟨_, fun _ _ h => h, over (by omega)⟩
    have r1 : ¬ -(m : Int) < -922337203685477580 := by omega
    by_cases p2 : m = 922337203685477580
    ·have r2 : (-(m : Int) == -922337203685477580) = true := by rw [beq_iff_eq]; omega
     by_cases p3 : 8 < v
     ·have r3 : (8 : Int) < (v : Int) := by omega
      simp -implicitDefEqProofs only [go_sem, ↓reduceIte, Nat.reduceEqDiff, Nat.reduceLT, Nat.reduceLeDiff, Nat.reduceAdd, Nat.reduceMul, Nat.reduceSub, reduceCtorEq, Nat.reduceMod, Nat.reduceBEq, Int.reduceBEq, Int.reduceBNe, Int.reduceToNat, f4, f5, f59, f60, hlti2, h02, Int.toNat_natCast, w1, w2, r1, r2, r3, gt_iff_lt, Bool.false_eq_true]
      refine hQ2 _ _ _ ?_
      simp -implicitDefEqProofs only [go_sem, ↓reduceIte, Nat.reduceEqDiff, Nat.reduceLT, Nat.reduceLeDiff, Nat.reduceAdd, Nat.reduceMul, Nat.reduceSub, reduceCtorEq, Nat.reduceMod, Nat.reduceBEq, Int.reduceBEq, Int.reduceBNe, Int.reduceToNat]
      exact ⟨_, fun _ _ h => h, over (by omega)⟩
     ·have r3 : ¬ (8 : Int) < (v : Int) := by omega
      have hle : 10 * m + v ≤ 9223372036854775808 := by omega
      simp -implicitDefEqProofs only [go_sem, ↓reduceIte, Nat.reduceEqDiff, Nat.reduceLT, Nat.reduceLeDiff, Nat.reduceAdd, Nat.reduceMul, Nat.reduceSub, reduceCtorEq, Nat.reduceMod, Nat.reduceBEq, Int.reduceBEq, Int.reduceBNe, Int.reduceToNat, f4, f5, f59, f60, hlti2, h02, Int.toNat_natCast, w1, w2, r1, r2, r3, gt_iff_lt, Bool.false_eq_true, hw2, w3 hle, w4 hle]
      refine vnext hJ2 hM2 S2 (fun _ _ h => h) ⟨rfl, k2 + 1, 10 * m + v, hlt2, hle, hr3, ?_, ?_, ?_, ?_, ?_⟩ ?_
      ·simp -implicitDefEqProofs only [go_sem, ↓reduceIte, Nat.reduceEqDiff, f0]
      ·simp -implicitDefEqProofs only [go_sem, ↓reduceIte, Nat.reduceEqDiff, f4]
      ·simp -implicitDefEqProofs only [go_sem, ↓reduceIte, Nat.reduceEqDiff]
      ·simp -implicitDefEqProofs only [go_sem, ↓reduceIte, Nat.reduceEqDiff, f59]
      ·simp -implicitDefEqProofs only [go_sem, ↓reduceIte, Nat.reduceEqDiff]
      ·simp -implicitDefEqProofs only [go_sem, ↓reduceIte, Nat.reduceEqDiff, f60, Int.toNat_natCast]
       omega
    ·have r2 : (-(m : Int) == -922337203685477580) = false := by rw [beq_eq_false_iff_ne]; omega
     have hle : 10 * m + v ≤ 9223372036854775808 := by omega
     simp -implicitDefEqProofs only [go_sem, ↓reduceIte, Nat.reduceEqDiff, Nat.reduceLT, Nat.reduceLeDiff, Nat.reduceAdd, Nat.reduceMul, Nat.reduceSub, reduceCtorEq, Nat.reduceMod, Nat.reduceBEq, Int.reduceBEq, Int.reduceBNe, Int.reduceToNat, f4, f5, f59, f60, hlti2, h02, Int.toNat_natCast, w1, w2, r1, r2, gt_iff_lt, Bool.false_eq_true, hw2, w3 hle, w4 hle]
     refine vnext hJ2 hM2 S2 (fun _ _ h => h) ⟨rfl, k2 + 1, 10 * m + v, hlt2, hle, hr3, ?_, ?_, ?_, ?_, ?_⟩ ?_
     ·simp -implicitDefEqProofs only [go_sem, ↓reduceIte, Nat.reduceEqDiff, f0]
     ·simp -implicitDefEqProofs only [go_sem, ↓reduceIte, Nat.reduceEqDiff, f4]
     ·simp -implicitDefEqProofs only [go_sem, ↓reduceIte, Nat.reduceEqDiff]
     ·simp -implicitDefEqProofs only [go_sem, ↓reduceIte, Nat.reduceEqDiff, f59]
     ·simp -implicitDefEqProofs only [go_sem, ↓reduceIte, Nat.reduceEqDiff]
     ·simp -implicitDefEqProofs only [go_sem, ↓reduceIte, Nat.reduceEqDiff, f60, Int.toNat_natCast]
      omega
   have hnl2 : ¬ (k2 : Int) < (d.size : Int) := by omega
   have hval : valD 0 (bl d 0) = m := by rw [hr2, bl_ge (by omega)]; rfl
   rw [hval, if_neg (by omega), hg] at hK
   simp -implicitDefEqProofs only [go_sem, ↓reduceIte, Nat.reduceEqDiff, Nat.reduceLT, Nat.reduceLeDiff, Nat.reduceAdd, Nat.reduceMul, Nat.reduceSub, reduceCtorEq, Nat.reduceMod, Nat.reduceBEq, Int.reduceBEq, Int.reduceBNe, Int.reduceToNat, f59, f60, hnl2]
   refine hQ2 _ _ _ ?_
   have hsz : ¬ (d.size : Int) < (d.size : Int) := by omega
   rw [if_neg (by decide)] at hK
   by_cases hm2 : m = 9223372036854775808
   ·have r4 : (-(m : Int) == -9223372036854775808) = true := by rw [beq_iff_eq]; omega
    rw [if_pos hm2] at hK
    simp -implicitDefEqProofs only [go_sem, ↓reduceIte, Nat.reduceEqDiff, Nat.reduceLT, Nat.reduceLeDiff, Nat.reduceAdd, Nat.reduceMul, Nat.reduceSub, reduceCtorEq, Nat.reduceMod, Nat.reduceBEq, Int.reduceBEq, Int.reduceBNe, Int.reduceToNat, f0, f4, f5, hsz, r4]
    exact ⟨_, fun _ _ h => h, hK _⟩
   ·have r4 : (-(m : Int) == -9223372036854775808) = false := by rw [beq_eq_false_iff_ne]; omega
    have w5 : IntKind.i64.wrap (0 - -(m : Int)) = (m : Int) := by rw [wrap64 (by omega) (by omega)]; omega
    rw [if_neg hm2] at hK
    simp -implicitDefEqProofs only [go_sem, ↓reduceIte, Nat.reduceEqDiff, Nat.reduceLT, Nat.reduceLeDiff, Nat.reduceAdd, Nat.reduceMul, Nat.reduceSub, reduceCtorEq, Nat.reduceMod, Nat.reduceBEq, Int.reduceBEq, Int.reduceBNe, Int.reduceToNat, f0, f4, f5, hsz, r4, Bool.false_eq_true, w5]
    exact ⟨_, fun _ _ h => h, hK _⟩
  have okk : (bl d 0).all dg = true → okD (bl s (dgs s)) = true := fun h => okf (.inl (by omega)) h (by omega) (by omega)
  by_cases k4 : same d ⟨#[45, 48]⟩ = true
  ·have hv : numV s = 0 := by have he : d = ⟨#[45, 48]⟩ := same_iff.1 k4; rw [← hd, he]; exact numV_m0
   simp -implicitDefEqProofs only [go_sem, ↓reduceIte, Nat.reduceEqDiff, Nat.reduceLT, Nat.reduceLeDiff, Nat.reduceAdd, Nat.reduceMul, Nat.reduceSub, reduceCtorEq, Nat.reduceMod, Nat.reduceBEq, Int.reduceBEq, Int.reduceBNe, Int.reduceToNat, gt_iff_lt, k1, k2, k3, k4, Bool.false_eq_true, Int.toNat_zero]
   rw [hv] at hK
   exact ⟨S, fun _ _ h => h, hK _⟩
  have k4 : same d ⟨#[45, 48]⟩ = false := by simpa using k4
  simp -implicitDefEqProofs only [go_sem, ↓reduceIte, Nat.reduceEqDiff, Nat.reduceLT, Nat.reduceLeDiff, Nat.reduceAdd, Nat.reduceMul, Nat.reduceSub, reduceCtorEq, Nat.reduceMod, Nat.reduceBEq, Int.reduceBEq, Int.reduceBNe, Int.reduceToNat, gt_iff_lt, k1, k2, k3, k4, Bool.false_eq_true, Int.toNat_zero]
  refine vloop (fun e S' => S' = S ∧ ∃ k : Nat, k ≤ d.size ∧ (bl d 0).all dg = (bl d k).all dg ∧ e 0 = .str d ∧ e 4 = .str d ∧ e 5 = .int .i64 0 ∧ e 43 = .int .i64 d.size ∧ e 44 = .int .i64 k) (fun e _ => d.size - iv (e 44)) ?_ ?_
  ·exact ⟨rfl, 0, Nat.zero_le _, rfl, by simp -implicitDefEqProofs only [go_sem, ↓reduceIte, Nat.reduceEqDiff], by simp -implicitDefEqProofs only [go_sem, ↓reduceIte, Nat.reduceEqDiff], by simp -implicitDefEqProofs only [go_sem, ↓reduceIte, Nat.reduceEqDiff], by simp -implicitDefEqProofs only [go_sem, ↓reduceIte, Nat.reduceEqDiff], by simp -implicitDefEqProofs only [go_sem, ↓reduceIte, Nat.reduceEqDiff]⟩
  rintro J M Q' hJ hM hQ e S' ⟨rfl, k, hk, hr, e0, e4, e5, e43, e44⟩
  by_cases hlt : k < d.size
  ·have hlti : (k : Int) < (d.size : Int) := by omega
   have h0 : (0 : Int) ≤ (k : Int) ∧ (k : Int) < (d.size : Int) := by omega
   have hw : IntKind.i64.wrap ((k : Int) + 1) = ((k + 1 : Nat) : Int) := wrap64 (by omega) (by omega)
   rw [bl_lt hlt, List.all_cons] at hr
   by_cases q1 : byteA d k < 48
   ·simp -implicitDefEqProofs only [go_sem, ↓reduceIte, Nat.reduceEqDiff, Nat.reduceLT, Nat.reduceLeDiff, Nat.reduceAdd, Nat.reduceMul, Nat.reduceSub, reduceCtorEq, Nat.reduceMod, Nat.reduceBEq, Int.reduceBEq, Int.reduceBNe, Int.reduceToNat, e4, e43, e44, hlti, h0, Int.toNat_natCast, q1]
    refine hQ _ _ _ ?_
    simp -implicitDefEqProofs only [go_sem, ↓reduceIte, Nat.reduceEqDiff, Nat.reduceLT, Nat.reduceLeDiff, Nat.reduceAdd, Nat.reduceMul, Nat.reduceSub, reduceCtorEq, Nat.reduceMod, Nat.reduceBEq, Int.reduceBEq, Int.reduceBNe, Int.reduceToNat]
    have hq : dg (byN d k) = false := by rw [byteA_N] at q1; unfold dg; rw [decide_eq_false (by omega), Bool.false_and]
    rw [nodg (by rw [hr, hq]; rfl)] at hK
    exact ⟨_, fun _ _ h => h, hK _⟩
   by_cases q2 : 57 < byteA d k
   ·simp -implicitDefEqProofs only [go_sem, ↓reduceIte, Nat.reduceEqDiff, Nat.reduceLT, Nat.reduceLeDiff, Nat.reduceAdd, Nat.reduceMul, Nat.reduceSub, reduceCtorEq, Nat.reduceMod, Nat.reduceBEq, Int.reduceBEq, Int.reduceBNe, Int.reduceToNat, e4, e43, e44, hlti, h0, Int.toNat_natCast, q1, gt_iff_lt, q2, Bool.false_eq_true]
    refine hQ _ _ _ ?_
    simp -implicitDefEqProofs only [go_sem, ↓reduceIte, Nat.reduceEqDiff, Nat.reduceLT, Nat.reduceLeDiff, Nat.reduceAdd, Nat.reduceMul, Nat.reduceSub, reduceCtorEq, Nat.reduceMod, Nat.reduceBEq, Int.reduceBEq, Int.reduceBNe, Int.reduceToNat]
    have hq : dg (byN d k) = false := by rw [byteA_N] at q2; unfold dg; rw [decide_eq_false (show ¬ byN d k ≤ 57 by omega), Bool.and_false]
    rw [nodg (by rw [hr, hq]; rfl)] at hK
    exact ⟨_, fun _ _ h => h, hK _⟩
   have hq : dg (byN d k) = true := by rw [byteA_N] at q1 q2; unfold dg; rw [decide_eq_true (by omega), decide_eq_true (by omega)]; rfl
   simp -implicitDefEqProofs only [go_sem, ↓reduceIte, Nat.reduceEqDiff, Nat.reduceLT, Nat.reduceLeDiff, Nat.reduceAdd, Nat.reduceMul, Nat.reduceSub, reduceCtorEq, Nat.reduceMod, Nat.reduceBEq, Int.reduceBEq, Int.reduceBNe, Int.reduceToNat, e4, e43, e44, hlti, h0, Int.toNat_natCast, q1, gt_iff_lt, q2, Bool.false_eq_true, hw]
   refine vnext hJ hM S' (fun _ _ h => h) ⟨rfl, k + 1, hlt, by rw [hr, hq, Bool.true_and], ?_, ?_, ?_, ?_, ?_⟩ ?_
   ·simp -implicitDefEqProofs only [go_sem, ↓reduceIte, Nat.reduceEqDiff, e0]
   ·simp -implicitDefEqProofs only [go_sem, ↓reduceIte, Nat.reduceEqDiff, e4]
   ·simp -implicitDefEqProofs only [go_sem, ↓reduceIte, Nat.reduceEqDiff, e5]
   ·simp -implicitDefEqProofs only [go_sem, ↓reduceIte, Nat.reduceEqDiff, e43]
   ·simp -implicitDefEqProofs only [go_sem, ↓reduceIte, Nat.reduceEqDiff]
   ·simp -implicitDefEqProofs only [go_sem, ↓reduceIte, Nat.reduceEqDiff, e44, Int.toNat_natCast]
    omega
  have hnl : ¬ (k : Int) < (d.size : Int) := by omega
  have hall : (bl d 0).all dg = true := by rw [hr, bl_ge (by omega)]; rfl
  have hok : okD (bl s (dgs s)) = true := okk hall
  have hdig : ∀ i, i < d.size → 48 ≤ byN d i ∧ byN d i ≤ 57 := digs hall
  unfold numV at hK
  rw [if_pos hok, ← hbl] at hK
  simp -implicitDefEqProofs only [go_sem, ↓reduceIte, Nat.reduceEqDiff, Nat.reduceLT, Nat.reduceLeDiff, Nat.reduceAdd, Nat.reduceMul, Nat.reduceSub, reduceCtorEq, Nat.reduceMod, Nat.reduceBEq, Int.reduceBEq, Int.reduceBNe, Int.reduceToNat, e43, e44, hnl]
  refine hQ _ _ _ ?_
  simp -implicitDefEqProofs only [go_sem, ↓reduceIte, Nat.reduceEqDiff, Nat.reduceLT, Nat.reduceLeDiff, Nat.reduceAdd, Nat.reduceMul, Nat.reduceSub, reduceCtorEq, Nat.reduceMod, Nat.reduceBEq, Int.reduceBEq, Int.reduceBNe, Int.reduceToNat, e4]
  clear hQ hM hJ hr e43 e44
  refine vloop (fun e S'' => S'' = S' ∧ ∃ k m : Nat, k ≤ d.size ∧ m ≤ 9223372036854775808 ∧ valD 0 (bl d 0) = valD m (bl d k) ∧ e 0 = .str d ∧ e 4 = .str d ∧ e 5 = .int .i64 (-(m : Int)) ∧ e 59 = .int .i64 d.size ∧ e 60 = .int .i64 k) (fun e _ => d.size - iv (e 60)) ?_ ?_
  ·exact ⟨rfl, 0, 0, Nat.zero_le _, Nat.zero_le _, rfl, by simp -implicitDefEqProofs only [go_sem, ↓reduceIte, Nat.reduceEqDiff, e0], by simp -implicitDefEqProofs only [go_sem, ↓reduceIte, Nat.reduceEqDiff, e4], by simp -implicitDefEqProofs only [go_sem, ↓reduceIte, Nat.reduceEqDiff, e5]; rfl, by simp -implicitDefEqProofs only [go_sem, ↓reduceIte, Nat.reduceEqDiff, e4], by simp -implicitDefEqProofs only [go_sem, ↓reduceIte, Nat.reduceEqDiff]⟩
  rintro J2 M2 Q2 hJ2 hM2 hQ2 e2 S2 ⟨rfl, k2, m, hk2, hm, hr2, f0, f4, f5, f59, f60⟩
  by_cases hlt2 : k2 < d.size
  ·have hlti2 : (k2 : Int) < (d.size : Int) := by omega
   have h02 : (0 : Int) ≤ (k2 : Int) ∧ (k2 : Int) < (d.size : Int) := by omega
   have hw2 : IntKind.i64.wrap ((k2 : Int) + 1) = ((k2 + 1 : Nat) : Int) := wrap64 (by omega) (by omega)
   obtain ⟨g1, g2⟩ := hdig k2 hlt2
   rw [bl_lt hlt2] at hr2
   have hr3 : valD 0 (bl d 0) = valD (10 * m + (byN d k2 - 48)) (bl d (k2 + 1)) := hr2
   have hge := valD_ge (bl d (k2 + 1)) (10 * m + (byN d k2 - 48))
   have w1 : IntKind.u8.wrap (byteA d k2 - 48) = ((byN d k2 - 48 : Nat) : Int) := by rw [byteA_N, wrapu8 (by omega) (by omega)]; omega
   have w2 : IntKind.i64.wrap ((byN d k2 - 48 : Nat) : Int) = ((byN d k2 - 48 : Nat) : Int) := wrap64 (by omega) (by omega)
   generalize hv : byN d k2 - 48 = v at *
   have over : 9223372036854775808 < 10 * m + v → K (.tup [.int .i64 0, .int .i64 5]) S2 := fun h => by rw [if_pos (show 9223372036854775808 < valD 0 (bl d 0) by omega)] at hK; exact hK 5
   have w3 : 10 * m + v ≤ 9223372036854775808 → IntKind.i64.wrap (10 * -(m : Int)) = 10 * -(m : Int) := fun h => wrap64 (by omega) (by omega)
   have w4 : 10 * m + v ≤ 9223372036854775808 → IntKind.i64.wrap (10 * -(m : Int) - (v : Int)) = -((10 * m + v : Nat) : Int) := fun h => by rw [wrap64 (by omega) (by omega)]; omega
   by_cases p1 : 922337203685477580 < m
   ·have r1 : -(m : Int) < -922337203685477580 := by omega
    simp -implicitDefEqProofs only [go_sem, ↓reduceIte, Nat.reduceEqDiff, Nat.reduceLT, Nat.reduceLeDiff, Nat.reduceAdd, Nat.reduceMul, Nat.reduceSub, reduceCtorEq, Nat.reduceMod, Nat.reduceBEq, Int.reduceBEq, Int.reduceBNe, Int.reduceToNat, f4, f5, f59, f60, hlti2, h02, Int.toNat_natCast, w1, w2, r1, gt_iff_lt, Bool.false_eq_true]
    refine hQ2 _ _ _ ?_
    simp -implicitDefEqProofs only [go_sem, ↓reduceIte, Nat.reduceEqDiff, Nat.reduceLT, Nat.reduceLeDiff, Nat.reduceAdd, Nat.reduceMul, Nat.reduceSub, reduceCtorEq, Nat.reduceMod, Nat.reduceBEq, Int.reduceBEq, Int.reduceBNe, Int.reduceToNat]
    exact ⟨_, fun _ _ h => h, over (by omega)⟩
   have r1 : ¬ -(m : Int) < -922337203685477580 := by omega
   by_cases p2 : m = 922337203685477580
   ·have r2 : (-(m : Int) == -922337203685477580) = true := by rw [beq_iff_eq]; omega
    by_cases p3 : 8 < v
    ·have r3 : (8 : Int) < (v : Int) := by omega
     simp -implicitDefEqProofs only [go_sem, ↓reduceIte, Nat.reduceEqDiff, Nat.reduceLT, Nat.reduceLeDiff, Nat.reduceAdd, Nat.reduceMul, Nat.reduceSub, reduceCtorEq, Nat.reduceMod, Nat.reduceBEq, Int.reduceBEq, Int.reduceBNe, Int.reduceToNat, f4, f5, f59, f60, hlti2, h02, Int.toNat_natCast, w1, w2, r1, r2, r3, gt_iff_lt, Bool.false_eq_true]
     refine hQ2 _ _ _ ?_
     simp -implicitDefEqProofs only [go_sem, ↓reduceIte, Nat.reduceEqDiff, Nat.reduceLT, Nat.reduceLeDiff, Nat.reduceAdd, Nat.reduceMul, Nat.reduceSub, reduceCtorEq, Nat.reduceMod, Nat.reduceBEq, Int.reduceBEq, Int.reduceBNe, Int.reduceToNat]
     exact ⟨_, fun _ _ h => h, over (by omega)⟩
    ·have r3 : ¬ (8 : Int) < (v : Int) := by omega
     have hle : 10 * m + v ≤ 9223372036854775808 := by omega
     simp -implicitDefEqProofs only [go_sem, ↓reduceIte, Nat.reduceEqDiff, Nat.reduceLT, Nat.reduceLeDiff, Nat.reduceAdd, Nat.reduceMul, Nat.reduceSub, reduceCtorEq, Nat.reduceMod, Nat.reduceBEq, Int.reduceBEq, Int.reduceBNe, Int.reduceToNat, f4, f5, f59, f60, hlti2, h02, Int.toNat_natCast, w1, w2, r1, r2, r3, gt_iff_lt, Bool.false_eq_true, hw2, w3 hle, w4 hle]
     refine vnext hJ2 hM2 S2 (fun _ _ h => h) ⟨rfl, k2 + 1, 10 * m + v, hlt2, hle, hr3, ?_, ?_, ?_, ?_, ?_⟩ ?_
     ·simp -implicitDefEqProofs only [go_sem, ↓reduceIte, Nat.reduceEqDiff, f0]
     ·simp -implicitDefEqProofs only [go_sem, ↓reduceIte, Nat.reduceEqDiff, f4]
     ·simp -implicitDefEqProofs only [go_sem, ↓reduceIte, Nat.reduceEqDiff]
     ·simp -implicitDefEqProofs only [go_sem, ↓reduceIte, Nat.reduceEqDiff, f59]
     ·simp -implicitDefEqProofs only [go_sem, ↓reduceIte, Nat.reduceEqDiff]
     ·simp -implicitDefEqProofs only [go_sem, ↓reduceIte, Nat.reduceEqDiff, f60, Int.toNat_natCast]
      omega
   ·have r2 : (-(m : Int) == -922337203685477580) = false := by rw [beq_eq_false_iff_ne]; omega
    have hle : 10 * m + v ≤ 9223372036854775808 := by omega
    simp -implicitDefEqProofs only [go_sem, ↓reduceIte, Nat.reduceEqDiff, Nat.reduceLT, Nat.reduceLeDiff, Nat.reduceAdd, Nat.reduceMul, Nat.reduceSub, reduceCtorEq, Nat.reduceMod, Nat.reduceBEq, Int.reduceBEq, Int.reduceBNe, Int.reduceToNat, f4, f5, f59, f60, hlti2, h02, Int.toNat_natCast, w1, w2, r1, r2, gt_iff_lt, Bool.false_eq_true, hw2, w3 hle, w4 hle]
    refine vnext hJ2 hM2 S2 (fun _ _ h => h) ⟨rfl, k2 + 1, 10 * m + v, hlt2, hle, hr3, ?_, ?_, ?_, ?_, ?_⟩ ?_
    ·simp -implicitDefEqProofs only [go_sem, ↓reduceIte, Nat.reduceEqDiff, f0]
    ·simp -implicitDefEqProofs only [go_sem, ↓reduceIte, Nat.reduceEqDiff, f4]
    ·simp -implicitDefEqProofs only [go_sem, ↓reduceIte, Nat.reduceEqDiff]
    ·simp -implicitDefEqProofs only [go_sem, ↓reduceIte, Nat.reduceEqDiff, f59]
    ·simp -implicitDefEqProofs only [go_sem, ↓reduceIte, Nat.reduceEqDiff]
    ·simp -implicitDefEqProofs only [go_sem, ↓reduceIte, Nat.reduceEqDiff, f60, Int.toNat_natCast]
     omega
  have hnl2 : ¬ (k2 : Int) < (d.size : Int) := by omega
  have hval : valD 0 (bl d 0) = m := by rw [hr2, bl_ge (by omega)]; rfl
  rw [hval, if_neg (by omega), hg] at hK
  simp -implicitDefEqProofs only [go_sem, ↓reduceIte, Nat.reduceEqDiff, Nat.reduceLT, Nat.reduceLeDiff, Nat.reduceAdd, Nat.reduceMul, Nat.reduceSub, reduceCtorEq, Nat.reduceMod, Nat.reduceBEq, Int.reduceBEq, Int.reduceBNe, Int.reduceToNat, f59, f60, hnl2]
  refine hQ2 _ _ _ ?_
  have hsz : ¬ (d.size : Int) < (d.size : Int) := by omega
  rw [if_neg (by decide)] at hK
  by_cases hm2 : m = 9223372036854775808
  ·have r4 : (-(m : Int) == -9223372036854775808) = true := by rw [beq_iff_eq]; omega
   rw [if_pos hm2] at hK
   simp -implicitDefEqProofs only [go_sem, ↓reduceIte, Nat.reduceEqDiff, Nat.reduceLT, Nat.reduceLeDiff, Nat.reduceAdd, Nat.reduceMul, Nat.reduceSub, reduceCtorEq, Nat.reduceMod, Nat.reduceBEq, Int.reduceBEq, Int.reduceBNe, Int.reduceToNat, f0, f4, f5, hsz, r4]
   exact ⟨_, fun _ _ h => h, hK _⟩
  ·have r4 : (-(m : Int) == -9223372036854775808) = false := by rw [beq_eq_false_iff_ne]; omega
   have w5 : IntKind.i64.wrap (0 - -(m : Int)) = (m : Int) := by rw [wrap64 (by omega) (by omega)]; omega
   rw [if_neg hm2] at hK
   simp -implicitDefEqProofs only [go_sem, ↓reduceIte, Nat.reduceEqDiff, Nat.reduceLT, Nat.reduceLeDiff, Nat.reduceAdd, Nat.reduceMul, Nat.reduceSub, reduceCtorEq, Nat.reduceMod, Nat.reduceBEq, Int.reduceBEq, Int.reduceBNe, Int.reduceToNat, f0, f4, f5, hsz, r4, Bool.false_eq_true, w5]
   exact ⟨_, fun _ _ h => h, hK _⟩
 ·simp -implicitDefEqProofs only [go_sem, ↓reduceIte, Nat.reduceEqDiff, Nat.reduceLT, Nat.reduceLeDiff, Nat.reduceAdd, Nat.reduceMul, Nat.reduceSub, reduceCtorEq, Nat.reduceMod, Nat.reduceBEq, Int.reduceBEq, Int.reduceBNe, Int.reduceToNat, Tryz.f48, gt_iff_lt, c1, c1', hb0, hi1, Int.toNat_zero, tn1, Int.toNat_natCast]
  rw [← hd]
  by_cases k1 : (d.size : Int) < 1
  ·simp -implicitDefEqProofs only [go_sem, ↓reduceIte, Nat.reduceEqDiff, Nat.reduceLT, Nat.reduceLeDiff, Nat.reduceAdd, Nat.reduceMul, Nat.reduceSub, reduceCtorEq, Nat.reduceMod, Nat.reduceBEq, Int.reduceBEq, Int.reduceBNe, Int.reduceToNat, gt_iff_lt, k1]
   rw [numV_bad (by unfold okD; rw [hlen, decide_eq_false (by omega)]; rfl)] at hK
   exact ⟨S, fun _ _ h => h, hK _⟩
  by_cases k2 : (19 : Int) < (d.size : Int)
  ·simp -implicitDefEqProofs only [go_sem, ↓reduceIte, Nat.reduceEqDiff, Nat.reduceLT, Nat.reduceLeDiff, Nat.reduceAdd, Nat.reduceMul, Nat.reduceSub, reduceCtorEq, Nat.reduceMod, Nat.reduceBEq, Int.reduceBEq, Int.reduceBNe, Int.reduceToNat, gt_iff_lt, k1, k2, Bool.false_eq_true]
   rw [numV_bad (by unfold okD; rw [hlen, decide_eq_false (show ¬ d.size ≤ 19 by omega), Bool.and_false]; rfl)] at hK
   exact ⟨S, fun _ _ h => h, hK _⟩
  by_cases k3 : (1 : Int) < (d.size : Int)
  ·have k3i : (0 : Int) ≤ 0 ∧ (0 : Int) < (d.size : Int) := by omega
   by_cases k5 : (byteA d 0 == 48) = true
   ·simp -implicitDefEqProofs only [go_sem, ↓reduceIte, Nat.reduceEqDiff, Nat.reduceLT, Nat.reduceLeDiff, Nat.reduceAdd, Nat.reduceMul, Nat.reduceSub, reduceCtorEq, Nat.reduceMod, Nat.reduceBEq, Int.reduceBEq, Int.reduceBNe, Int.reduceToNat, gt_iff_lt, k1, k2, k3, k3i, k5, Bool.false_eq_true, Int.toNat_zero]
    rw [numV_bad (lead (by omega) k5)] at hK
    exact ⟨S, fun _ _ h => h, hK _⟩
   have k5f : (byteA d 0 == 48) = false := by simpa using k5
   have okk : (bl d 0).all dg = true → okD (bl s (dgs s)) = true := fun h => okf (.inr k5) h (by omega) (by omega)
   by_cases k4 : same s ⟨#[45, 48]⟩ = true
   ·have hv : numV s = 0 := by have he : s = ⟨#[45, 48]⟩ := same_iff.1 k4; rw [he]; exact numV_m0
    simp -implicitDefEqProofs only [go_sem, ↓reduceIte, Nat.reduceEqDiff, Nat.reduceLT, Nat.reduceLeDiff, Nat.reduceAdd, Nat.reduceMul, Nat.reduceSub, reduceCtorEq, Nat.reduceMod, Nat.reduceBEq, Int.reduceBEq, Int.reduceBNe, Int.reduceToNat, gt_iff_lt, k1, k2, k3, k3i, k5f, k4, Bool.false_eq_true, Int.toNat_zero]
    rw [hv] at hK
    exact ⟨S, fun _ _ h => h, hK _⟩
   have k4 : same s ⟨#[45, 48]⟩ = false := by simpa using k4
   simp -implicitDefEqProofs only [go_sem, ↓reduceIte, Nat.reduceEqDiff, Nat.reduceLT, Nat.reduceLeDiff, Nat.reduceAdd, Nat.reduceMul, Nat.reduceSub, reduceCtorEq, Nat.reduceMod, Nat.reduceBEq, Int.reduceBEq, Int.reduceBNe, Int.reduceToNat, gt_iff_lt, k1, k2, k3, k3i, k5f, k4, Bool.false_eq_true, Int.toNat_zero]
   refine vloop (fun e S' => S' = S ∧ ∃ k : Nat, k ≤ d.size ∧ (bl d 0).all dg = (bl d k).all dg ∧ e 0 = .str s ∧ e 4 = .str d ∧ e 5 = .int .i64 0 ∧ e 43 = .int .i64 d.size ∧ e 44 = .int .i64 k) (fun e _ => d.size - iv (e 44)) ?_ ?_
   ·exact ⟨rfl, 0, Nat.zero_le _, rfl, by simp -implicitDefEqProofs only [go_sem, ↓reduceIte, Nat.reduceEqDiff], by simp -implicitDefEqProofs only [go_sem, ↓reduceIte, Nat.reduceEqDiff], by simp -implicitDefEqProofs only [go_sem, ↓reduceIte, Nat.reduceEqDiff], by simp -implicitDefEqProofs only [go_sem, ↓reduceIte, Nat.reduceEqDiff], by simp -implicitDefEqProofs only [go_sem, ↓reduceIte, Nat.reduceEqDiff]⟩
   rintro J M Q' hJ hM hQ e S' ⟨rfl, k, hk, hr, e0, e4, e5, e43, e44⟩
   by_cases hlt : k < d.size
   ·have hlti : (k : Int) < (d.size : Int) := by omega
    have h0 : (0 : Int) ≤ (k : Int) ∧ (k : Int) < (d.size : Int) := by omega
    have hw : IntKind.i64.wrap ((k : Int) + 1) = ((k + 1 : Nat) : Int) := wrap64 (by omega) (by omega)
    rw [bl_lt hlt, List.all_cons] at hr
    by_cases q1 : byteA d k < 48
    ·simp -implicitDefEqProofs only [go_sem, ↓reduceIte, Nat.reduceEqDiff, Nat.reduceLT, Nat.reduceLeDiff, Nat.reduceAdd, Nat.reduceMul, Nat.reduceSub, reduceCtorEq, Nat.reduceMod, Nat.reduceBEq, Int.reduceBEq, Int.reduceBNe, Int.reduceToNat, e4, e43, e44, hlti, h0, Int.toNat_natCast, q1]
     refine hQ _ _ _ ?_
     simp -implicitDefEqProofs only [go_sem, ↓reduceIte, Nat.reduceEqDiff, Nat.reduceLT, Nat.reduceLeDiff, Nat.reduceAdd, Nat.reduceMul, Nat.reduceSub, reduceCtorEq, Nat.reduceMod, Nat.reduceBEq, Int.reduceBEq, Int.reduceBNe, Int.reduceToNat]
     have hq : dg (byN d k) = false := by rw [byteA_N] at q1; unfold dg; rw [decide_eq_false (by omega), Bool.false_and]
     rw [nodg (by rw [hr, hq]; rfl)] at hK
     exact ⟨_, fun _ _ h => h, hK _⟩
    by_cases q2 : 57 < byteA d k
    ·simp -implicitDefEqProofs only [go_sem, ↓reduceIte, Nat.reduceEqDiff, Nat.reduceLT, Nat.reduceLeDiff, Nat.reduceAdd, Nat.reduceMul, Nat.reduceSub, reduceCtorEq, Nat.reduceMod, Nat.reduceBEq, Int.reduceBEq, Int.reduceBNe, Int.reduceToNat, e4, e43, e44, hlti, h0, Int.toNat_natCast, q1, gt_iff_lt, q2, Bool.false_eq_true]
     refine hQ _ _ _ ?_
     simp -implicitDefEqProofs only [go_sem, ↓reduceIte, Nat.reduceEqDiff, Nat.reduceLT, Nat.reduceLeDiff, Nat.reduceAdd, Nat.reduceMul, Nat.reduceSub, reduceCtorEq, Nat.reduceMod, Nat.reduceBEq, Int.reduceBEq, Int.reduceBNe, Int.reduceToNat]
     have hq : dg (byN d k) = false := by rw [byteA_N] at q2; unfold dg; rw [decide_eq_false (show ¬ byN d k ≤ 57 by omega), Bool.and_false]
     rw [nodg (by rw [hr, hq]; rfl)] at hK
     exact ⟨_, fun _ _ h => h, hK _⟩
    have hq : dg (byN d k) = true := by rw [byteA_N] at q1 q2; unfold dg; rw [decide_eq_true (by omega), decide_eq_true (by omega)]; rfl
    simp -implicitDefEqProofs only [go_sem, ↓reduceIte, Nat.reduceEqDiff, Nat.reduceLT, Nat.reduceLeDiff, Nat.reduceAdd, Nat.reduceMul, Nat.reduceSub, reduceCtorEq, Nat.reduceMod, Nat.reduceBEq, Int.reduceBEq, Int.reduceBNe, Int.reduceToNat, e4, e43, e44, hlti, h0, Int.toNat_natCast, q1, gt_iff_lt, q2, Bool.false_eq_true, hw]
    refine vnext hJ hM S' (fun _ _ h => h) ⟨rfl, k + 1, hlt, by rw [hr, hq, Bool.true_and], ?_, ?_, ?_, ?_, ?_⟩ ?_
    ·simp -implicitDefEqProofs only [go_sem, ↓reduceIte, Nat.reduceEqDiff, e0]
    ·simp -implicitDefEqProofs only [go_sem, ↓reduceIte, Nat.reduceEqDiff, e4]
    ·simp -implicitDefEqProofs only [go_sem, ↓reduceIte, Nat.reduceEqDiff, e5]
    ·simp -implicitDefEqProofs only [go_sem, ↓reduceIte, Nat.reduceEqDiff, e43]
    ·simp -implicitDefEqProofs only [go_sem, ↓reduceIte, Nat.reduceEqDiff]
    ·simp -implicitDefEqProofs only [go_sem, ↓reduceIte, Nat.reduceEqDiff, e44, Int.toNat_natCast]
     omega
   have hnl : ¬ (k : Int) < (d.size : Int) := by omega
   have hall : (bl d 0).all dg = true := by rw [hr, bl_ge (by omega)]; rfl
   have hok : okD (bl s (dgs s)) = true := okk hall
   have hdig : ∀ i, i < d.size → 48 ≤ byN d i ∧ byN d i ≤ 57 := digs hall
   unfold numV at hK
   rw [if_pos hok, ← hbl] at hK
   simp -implicitDefEqProofs only [go_sem, ↓reduceIte, Nat.reduceEqDiff, Nat.reduceLT, Nat.reduceLeDiff, Nat.reduceAdd, Nat.reduceMul, Nat.reduceSub, reduceCtorEq, Nat.reduceMod, Nat.reduceBEq, Int.reduceBEq, Int.reduceBNe, Int.reduceToNat, e43, e44, hnl]
   refine hQ _ _ _ ?_
   simp -implicitDefEqProofs only [go_sem, ↓reduceIte, Nat.reduceEqDiff, Nat.reduceLT, Nat.reduceLeDiff, Nat.reduceAdd, Nat.reduceMul, Nat.reduceSub, reduceCtorEq, Nat.reduceMod, Nat.reduceBEq, Int.reduceBEq, Int.reduceBNe, Int.reduceToNat, e4]
   clear hQ hM hJ hr e43 e44
   refine vloop (fun e S'' => S'' = S' ∧ ∃ k m : Nat, k ≤ d.size ∧ m ≤ 9223372036854775808 ∧ valD 0 (bl d 0) = valD m (bl d k) ∧ e 0 = .str s ∧ e 4 = .str d ∧ e 5 = .int .i64 (-(m : Int)) ∧ e 59 = .int .i64 d.size ∧ e 60 = .int .i64 k) (fun e _ => d.size - iv (e 60)) ?_ ?_
   ·exact ⟨rfl, 0, 0, Nat.zero_le _, Nat.zero_le _, rfl, by simp -implicitDefEqProofs only [go_sem, ↓reduceIte, Nat.reduceEqDiff, e0], by simp -implicitDefEqProofs only [go_sem, ↓reduceIte, Nat.reduceEqDiff, e4], by simp -implicitDefEqProofs only [go_sem, ↓reduceIte, Nat.reduceEqDiff, e5]; rfl, by simp -implicitDefEqProofs only [go_sem, ↓reduceIte, Nat.reduceEqDiff, e4], by simp -implicitDefEqProofs only [go_sem, ↓reduceIte, Nat.reduceEqDiff]⟩
   rintro J2 M2 Q2 hJ2 hM2 hQ2 e2 S2 ⟨rfl, k2, m, hk2, hm, hr2, f0, f4, f5, f59, f60⟩
   by_cases hlt2 : k2 < d.size
   ·have hlti2 : (k2 : Int) < (d.size : Int) := by omega
    have h02 : (0 : Int) ≤ (k2 : Int) ∧ (k2 : Int) < (d.size : Int) := by omega
    have hw2 : IntKind.i64.wrap ((k2 : Int) + 1) = ((k2 + 1 : Nat) : Int) := wrap64 (by omega) (by omega)
    obtain ⟨g1, g2⟩ := hdig k2 hlt2
    rw [bl_lt hlt2] at hr2
    have hr3 : valD 0 (bl d 0) = valD (10 * m + (byN d k2 - 48)) (bl d (k2 + 1)) := hr2
    have hge := valD_ge (bl d (k2 + 1)) (10 * m + (byN d k2 - 48))
    have w1 : IntKind.u8.wrap (byteA d k2 - 48) = ((byN d k2 - 48 : Nat) : Int) := by rw [byteA_N, wrapu8 (by omega) (by omega)]; omega
    have w2 : IntKind.i64.wrap ((byN d k2 - 48 : Nat) : Int) = ((byN d k2 - 48 : Nat) : Int) := wrap64 (by omega) (by omega)
    generalize hv : byN d k2 - 48 = v at *
    have over : 9223372036854775808 < 10 * m + v → K (.tup [.int .i64 0, .int .i64 5]) S2 := fun h => by rw [if_pos (show 9223372036854775808 < valD 0 (bl d 0) by omega)] at hK; exact hK 5
    have w3 : 10 * m + v ≤ 9223372036854775808 → IntKind.i64.wrap (10 * -(m : Int)) = 10 * -(m : Int) := fun h => wrap64 (by omega) (by omega)
    have w4 : 10 * m + v ≤ 9223372036854775808 → IntKind.i64.wrap (10 * -(m : Int) - (v : Int)) = -((10 * m + v : Nat) : Int) := fun h => by rw [wrap64 (by omega) (by omega)]; omega
    by_cases p1 : 922337203685477580 < m
    ·have r1 : -(m : Int) < -922337203685477580 := by omega
     simp -implicitDefEqProofs only [go_sem, ↓reduceIte, Nat.reduceEqDiff, Nat.reduceLT, Nat.reduceLeDiff, Nat.reduceAdd, Nat.reduceMul, Nat.reduceSub, reduceCtorEq, Nat.reduceMod, Nat.reduceBEq, Int.reduceBEq, Int.reduceBNe, Int.reduceToNat, f4, f5, f59, f60, hlti2, h02, Int.toNat_natCast, w1, w2, r1, gt_iff_lt, Bool.false_eq_true]
     refine hQ2 _ _ _ ?_
     simp -implicitDefEqProofs only [go_sem, ↓reduceIte, Nat.reduceEqDiff, Nat.reduceLT, Nat.reduceLeDiff, Nat.reduceAdd, Nat.reduceMul, Nat.reduceSub, reduceCtorEq, Nat.reduceMod, Nat.reduceBEq, Int.reduceBEq, Int.reduceBNe, Int.reduceToNat]
     exact ⟨_, fun _ _ h => h, over (by omega)⟩
    have r1 : ¬ -(m : Int) < -922337203685477580 := by omega
    by_cases p2 : m = 922337203685477580
    ·have r2 : (-(m : Int) == -922337203685477580) = true := by rw [beq_iff_eq]; omega
     by_cases p3 : 8 < v
     ·have r3 : (8 : Int) < (v : Int) := by omega
      simp -implicitDefEqProofs only [go_sem, ↓reduceIte, Nat.reduceEqDiff, Nat.reduceLT, Nat.reduceLeDiff, Nat.reduceAdd, Nat.reduceMul, Nat.reduceSub, reduceCtorEq, Nat.reduceMod, Nat.reduceBEq, Int.reduceBEq, Int.reduceBNe, Int.reduceToNat, f4, f5, f59, f60, hlti2, h02, Int.toNat_natCast, w1, w2, r1, r2, r3, gt_iff_lt, Bool.false_eq_true]
      refine hQ2 _ _ _ ?_
      simp -implicitDefEqProofs only [go_sem, ↓reduceIte, Nat.reduceEqDiff, Nat.reduceLT, Nat.reduceLeDiff, Nat.reduceAdd, Nat.reduceMul, Nat.reduceSub, reduceCtorEq, Nat.reduceMod, Nat.reduceBEq, Int.reduceBEq, Int.reduceBNe, Int.reduceToNat]
      exact ⟨_, fun _ _ h => h, over (by omega)⟩
     ·have r3 : ¬ (8 : Int) < (v : Int) := by omega
      have hle : 10 * m + v ≤ 9223372036854775808 := by omega
      simp -implicitDefEqProofs only [go_sem, ↓reduceIte, Nat.reduceEqDiff, Nat.reduceLT, Nat.reduceLeDiff, Nat.reduceAdd, Nat.reduceMul, Nat.reduceSub, reduceCtorEq, Nat.reduceMod, Nat.reduceBEq, Int.reduceBEq, Int.reduceBNe, Int.reduceToNat, f4, f5, f59, f60, hlti2, h02, Int.toNat_natCast, w1, w2, r1, r2, r3, gt_iff_lt, Bool.false_eq_true, hw2, w3 hle, w4 hle]
      refine vnext hJ2 hM2 S2 (fun _ _ h => h) ⟨rfl, k2 + 1, 10 * m + v, hlt2, hle, hr3, ?_, ?_, ?_, ?_, ?_⟩ ?_
      ·simp -implicitDefEqProofs only [go_sem, ↓reduceIte, Nat.reduceEqDiff, f0]
      ·simp -implicitDefEqProofs only [go_sem, ↓reduceIte, Nat.reduceEqDiff, f4]
      ·simp -implicitDefEqProofs only [go_sem, ↓reduceIte, Nat.reduceEqDiff]
      ·simp -implicitDefEqProofs only [go_sem, ↓reduceIte, Nat.reduceEqDiff, f59]
      ·simp -implicitDefEqProofs only [go_sem, ↓reduceIte, Nat.reduceEqDiff]
      ·simp -implicitDefEqProofs only [go_sem, ↓reduceIte, Nat.reduceEqDiff, f60, Int.toNat_natCast]
       omega
    ·have r2 : (-(m : Int) == -922337203685477580) = false := by rw [beq_eq_false_iff_ne]; omega
     have hle : 10 * m + v ≤ 9223372036854775808 := by omega
     simp -implicitDefEqProofs only [go_sem, ↓reduceIte, Nat.reduceEqDiff, Nat.reduceLT, Nat.reduceLeDiff, Nat.reduceAdd, Nat.reduceMul, Nat.reduceSub, reduceCtorEq, Nat.reduceMod, Nat.reduceBEq, Int.reduceBEq, Int.reduceBNe, Int.reduceToNat, f4, f5, f59, f60, hlti2, h02, Int.toNat_natCast, w1, w2, r1, r2, gt_iff_lt, Bool.false_eq_true, hw2, w3 hle, w4 hle]
     refine vnext hJ2 hM2 S2 (fun _ _ h => h) ⟨rfl, k2 + 1, 10 * m + v, hlt2, hle, hr3, ?_, ?_, ?_, ?_, ?_⟩ ?_
     ·simp -implicitDefEqProofs only [go_sem, ↓reduceIte, Nat.reduceEqDiff, f0]
     ·simp -implicitDefEqProofs only [go_sem, ↓reduceIte, Nat.reduceEqDiff, f4]
     ·simp -implicitDefEqProofs only [go_sem, ↓reduceIte, Nat.reduceEqDiff]
     ·simp -implicitDefEqProofs only [go_sem, ↓reduceIte, Nat.reduceEqDiff, f59]
     ·simp -implicitDefEqProofs only [go_sem, ↓reduceIte, Nat.reduceEqDiff]
     ·simp -implicitDefEqProofs only [go_sem, ↓reduceIte, Nat.reduceEqDiff, f60, Int.toNat_natCast]
      omega
   have hnl2 : ¬ (k2 : Int) < (d.size : Int) := by omega
   have hval : valD 0 (bl d 0) = m := by rw [hr2, bl_ge (by omega)]; rfl
   rw [hval, if_neg (by omega), hg] at hK
   simp -implicitDefEqProofs only [go_sem, ↓reduceIte, Nat.reduceEqDiff, Nat.reduceLT, Nat.reduceLeDiff, Nat.reduceAdd, Nat.reduceMul, Nat.reduceSub, reduceCtorEq, Nat.reduceMod, Nat.reduceBEq, Int.reduceBEq, Int.reduceBNe, Int.reduceToNat, f59, f60, hnl2]
   refine hQ2 _ _ _ ?_
   have hsz : (d.size : Int) < (s.size : Int) := by omega
   rw [if_pos rfl] at hK
   simp -implicitDefEqProofs only [go_sem, ↓reduceIte, Nat.reduceEqDiff, Nat.reduceLT, Nat.reduceLeDiff, Nat.reduceAdd, Nat.reduceMul, Nat.reduceSub, reduceCtorEq, Nat.reduceMod, Nat.reduceBEq, Int.reduceBEq, Int.reduceBNe, Int.reduceToNat, f0, f4, f5, hsz]
   exact ⟨_, fun _ _ h => h, hK _⟩
  have okk : (bl d 0).all dg = true → okD (bl s (dgs s)) = true := fun h => okf (.inl (by omega)) h (by omega) (by omega)
  by_cases k4 : same s ⟨#[45, 48]⟩ = true
  ·have hv : numV s = 0 := by have he : s = ⟨#[45, 48]⟩ := same_iff.1 k4; rw [he]; exact numV_m0
   simp -implicitDefEqProofs only [go_sem, ↓reduceIte, Nat.reduceEqDiff, Nat.reduceLT, Nat.reduceLeDiff, Nat.reduceAdd, Nat.reduceMul, Nat.reduceSub, reduceCtorEq, Nat.reduceMod, Nat.reduceBEq, Int.reduceBEq, Int.reduceBNe, Int.reduceToNat, gt_iff_lt, k1, k2, k3, k4, Bool.false_eq_true, Int.toNat_zero]
   rw [hv] at hK
   exact ⟨S, fun _ _ h => h, hK _⟩
  have k4 : same s ⟨#[45, 48]⟩ = false := by simpa using k4
  simp -implicitDefEqProofs only [go_sem, ↓reduceIte, Nat.reduceEqDiff, Nat.reduceLT, Nat.reduceLeDiff, Nat.reduceAdd, Nat.reduceMul, Nat.reduceSub, reduceCtorEq, Nat.reduceMod, Nat.reduceBEq, Int.reduceBEq, Int.reduceBNe, Int.reduceToNat, gt_iff_lt, k1, k2, k3, k4, Bool.false_eq_true, Int.toNat_zero]
  refine vloop (fun e S' => S' = S ∧ ∃ k : Nat, k ≤ d.size ∧ (bl d 0).all dg = (bl d k).all dg ∧ e 0 = .str s ∧ e 4 = .str d ∧ e 5 = .int .i64 0 ∧ e 43 = .int .i64 d.size ∧ e 44 = .int .i64 k) (fun e _ => d.size - iv (e 44)) ?_ ?_
  ·exact ⟨rfl, 0, Nat.zero_le _, rfl, by simp -implicitDefEqProofs only [go_sem, ↓reduceIte, Nat.reduceEqDiff], by simp -implicitDefEqProofs only [go_sem, ↓reduceIte, Nat.reduceEqDiff], by simp -implicitDefEqProofs only [go_sem, ↓reduceIte, Nat.reduceEqDiff], by simp -implicitDefEqProofs only [go_sem, ↓reduceIte, Nat.reduceEqDiff], by simp -implicitDefEqProofs only [go_sem, ↓reduceIte, Nat.reduceEqDiff]⟩
  rintro J M Q' hJ hM hQ e S' ⟨rfl, k, hk, hr, e0, e4, e5, e43, e44⟩
  by_cases hlt : k < d.size
  ·have hlti : (k : Int) < (d.size : Int) := by omega
   have h0 : (0 : Int) ≤ (k : Int) ∧ (k : Int) < (d.size : Int) := by omega
   have hw : IntKind.i64.wrap ((k : Int) + 1) = ((k + 1 : Nat) : Int) := wrap64 (by omega) (by omega)
   rw [bl_lt hlt, List.all_cons] at hr
   by_cases q1 : byteA d k < 48
   ·simp -implicitDefEqProofs only [go_sem, ↓reduceIte, Nat.reduceEqDiff, Nat.reduceLT, Nat.reduceLeDiff, Nat.reduceAdd, Nat.reduceMul, Nat.reduceSub, reduceCtorEq, Nat.reduceMod, Nat.reduceBEq, Int.reduceBEq, Int.reduceBNe, Int.reduceToNat, e4, e43, e44, hlti, h0, Int.toNat_natCast, q1]
    refine hQ _ _ _ ?_
    simp -implicitDefEqProofs only [go_sem, ↓reduceIte, Nat.reduceEqDiff, Nat.reduceLT, Nat.reduceLeDiff, Nat.reduceAdd, Nat.reduceMul, Nat.reduceSub, reduceCtorEq, Nat.reduceMod, Nat.reduceBEq, Int.reduceBEq, Int.reduceBNe, Int.reduceToNat]
    have hq : dg (byN d k) = false := by rw [byteA_N] at q1; unfold dg; rw [decide_eq_false (by omega), Bool.false_and]
    rw [nodg (by rw [hr, hq]; rfl)] at hK
    exact ⟨_, fun _ _ h => h, hK _⟩
   by_cases q2 : 57 < byteA d k
   ·simp -implicitDefEqProofs only [go_sem, ↓reduceIte, Nat.reduceEqDiff, Nat.reduceLT, Nat.reduceLeDiff, Nat.reduceAdd, Nat.reduceMul, Nat.reduceSub, reduceCtorEq, Nat.reduceMod, Nat.reduceBEq, Int.reduceBEq, Int.reduceBNe, Int.reduceToNat, e4, e43, e44, hlti, h0, Int.toNat_natCast, q1, gt_iff_lt, q2, Bool.false_eq_true]
    refine hQ _ _ _ ?_
    simp -implicitDefEqProofs only [go_sem, ↓reduceIte, Nat.reduceEqDiff, Nat.reduceLT, Nat.reduceLeDiff, Nat.reduceAdd, Nat.reduceMul, Nat.reduceSub, reduceCtorEq, Nat.reduceMod, Nat.reduceBEq, Int.reduceBEq, Int.reduceBNe, Int.reduceToNat]
    have hq : dg (byN d k) = false := by rw [byteA_N] at q2; unfold dg; rw [decide_eq_false (show ¬ byN d k ≤ 57 by omega), Bool.and_false]
    rw [nodg (by rw [hr, hq]; rfl)] at hK
    exact ⟨_, fun _ _ h => h, hK _⟩
   have hq : dg (byN d k) = true := by rw [byteA_N] at q1 q2; unfold dg; rw [decide_eq_true (by omega), decide_eq_true (by omega)]; rfl
   simp -implicitDefEqProofs only [go_sem, ↓reduceIte, Nat.reduceEqDiff, Nat.reduceLT, Nat.reduceLeDiff, Nat.reduceAdd, Nat.reduceMul, Nat.reduceSub, reduceCtorEq, Nat.reduceMod, Nat.reduceBEq, Int.reduceBEq, Int.reduceBNe, Int.reduceToNat, e4, e43, e44, hlti, h0, Int.toNat_natCast, q1, gt_iff_lt, q2, Bool.false_eq_true, hw]
   refine vnext hJ hM S' (fun _ _ h => h) ⟨rfl, k + 1, hlt, by rw [hr, hq, Bool.true_and], ?_, ?_, ?_, ?_, ?_⟩ ?_
   ·simp -implicitDefEqProofs only [go_sem, ↓reduceIte, Nat.reduceEqDiff, e0]
   ·simp -implicitDefEqProofs only [go_sem, ↓reduceIte, Nat.reduceEqDiff, e4]
   ·simp -implicitDefEqProofs only [go_sem, ↓reduceIte, Nat.reduceEqDiff, e5]
   ·simp -implicitDefEqProofs only [go_sem, ↓reduceIte, Nat.reduceEqDiff, e43]
   ·simp -implicitDefEqProofs only [go_sem, ↓reduceIte, Nat.reduceEqDiff]
   ·simp -implicitDefEqProofs only [go_sem, ↓reduceIte, Nat.reduceEqDiff, e44, Int.toNat_natCast]
    omega
  have hnl : ¬ (k : Int) < (d.size : Int) := by omega
  have hall : (bl d 0).all dg = true := by rw [hr, bl_ge (by omega)]; rfl
  have hok : okD (bl s (dgs s)) = true := okk hall
  have hdig : ∀ i, i < d.size → 48 ≤ byN d i ∧ byN d i ≤ 57 := digs hall
  unfold numV at hK
  rw [if_pos hok, ← hbl] at hK
  simp -implicitDefEqProofs only [go_sem, ↓reduceIte, Nat.reduceEqDiff, Nat.reduceLT, Nat.reduceLeDiff, Nat.reduceAdd, Nat.reduceMul, Nat.reduceSub, reduceCtorEq, Nat.reduceMod, Nat.reduceBEq, Int.reduceBEq, Int.reduceBNe, Int.reduceToNat, e43, e44, hnl]
  refine hQ _ _ _ ?_
  simp -implicitDefEqProofs only [go_sem, ↓reduceIte, Nat.reduceEqDiff, Nat.reduceLT, Nat.reduceLeDiff, Nat.reduceAdd, Nat.reduceMul, Nat.reduceSub, reduceCtorEq, Nat.reduceMod, Nat.reduceBEq, Int.reduceBEq, Int.reduceBNe, Int.reduceToNat, e4]
  clear hQ hM hJ hr e43 e44
  refine vloop (fun e S'' => S'' = S' ∧ ∃ k m : Nat, k ≤ d.size ∧ m ≤ 9223372036854775808 ∧ valD 0 (bl d 0) = valD m (bl d k) ∧ e 0 = .str s ∧ e 4 = .str d ∧ e 5 = .int .i64 (-(m : Int)) ∧ e 59 = .int .i64 d.size ∧ e 60 = .int .i64 k) (fun e _ => d.size - iv (e 60)) ?_ ?_
  ·exact ⟨rfl, 0, 0, Nat.zero_le _, Nat.zero_le _, rfl, by simp -implicitDefEqProofs only [go_sem, ↓reduceIte, Nat.reduceEqDiff, e0], by simp -implicitDefEqProofs only [go_sem, ↓reduceIte, Nat.reduceEqDiff, e4], by simp -implicitDefEqProofs only [go_sem, ↓reduceIte, Nat.reduceEqDiff, e5]; rfl, by simp -implicitDefEqProofs only [go_sem, ↓reduceIte, Nat.reduceEqDiff, e4], by simp -implicitDefEqProofs only [go_sem, ↓reduceIte, Nat.reduceEqDiff]⟩
  rintro J2 M2 Q2 hJ2 hM2 hQ2 e2 S2 ⟨rfl, k2, m, hk2, hm, hr2, f0, f4, f5, f59, f60⟩
  by_cases hlt2 : k2 < d.size
  ·have hlti2 : (k2 : Int) < (d.size : Int) := by omega
   have h02 : (0 : Int) ≤ (k2 : Int) ∧ (k2 : Int) < (d.size : Int) := by omega
   have hw2 : IntKind.i64.wrap ((k2 : Int) + 1) = ((k2 + 1 : Nat) : Int) := wrap64 (by omega) (by omega)
   obtain ⟨g1, g2⟩ := hdig k2 hlt2
   rw [bl_lt hlt2] at hr2
   have hr3 : valD 0 (bl d 0) = valD (10 * m + (byN d k2 - 48)) (bl d (k2 + 1)) := hr2
   have hge := valD_ge (bl d (k2 + 1)) (10 * m + (byN d k2 - 48))
   have w1 : IntKind.u8.wrap (byteA d k2 - 48) = ((byN d k2 - 48 : Nat) : Int) := by rw [byteA_N, wrapu8 (by omega) (by omega)]; omega
   have w2 : IntKind.i64.wrap ((byN d k2 - 48 : Nat) : Int) = ((byN d k2 - 48 : Nat) : Int) := wrap64 (by omega) (by omega)
   generalize hv : byN d k2 - 48 = v at *
   have over : 9223372036854775808 < 10 * m + v → K (.tup [.int .i64 0, .int .i64 5]) S2 := fun h => by rw [if_pos (show 9223372036854775808 < valD 0 (bl d 0) by omega)] at hK; exact hK 5
   have w3 : 10 * m + v ≤ 9223372036854775808 → IntKind.i64.wrap (10 * -(m : Int)) = 10 * -(m : Int) := fun h => wrap64 (by omega) (by omega)
   have w4 : 10 * m + v ≤ 9223372036854775808 → IntKind.i64.wrap (10 * -(m : Int) - (v : Int)) = -((10 * m + v : Nat) : Int) := fun h => by rw [wrap64 (by omega) (by omega)]; omega
   by_cases p1 : 922337203685477580 < m
   ·have r1 : -(m : Int) < -922337203685477580 := by omega
    simp -implicitDefEqProofs only [go_sem, ↓reduceIte, Nat.reduceEqDiff, Nat.reduceLT, Nat.reduceLeDiff, Nat.reduceAdd, Nat.reduceMul, Nat.reduceSub, reduceCtorEq, Nat.reduceMod, Nat.reduceBEq, Int.reduceBEq, Int.reduceBNe, Int.reduceToNat, f4, f5, f59, f60, hlti2, h02, Int.toNat_natCast, w1, w2, r1, gt_iff_lt, Bool.false_eq_true]
    refine hQ2 _ _ _ ?_
    simp -implicitDefEqProofs only [go_sem, ↓reduceIte, Nat.reduceEqDiff, Nat.reduceLT, Nat.reduceLeDiff, Nat.reduceAdd, Nat.reduceMul, Nat.reduceSub, reduceCtorEq, Nat.reduceMod, Nat.reduceBEq, Int.reduceBEq, Int.reduceBNe, Int.reduceToNat]
    exact ⟨_, fun _ _ h => h, over (by omega)⟩
   have r1 : ¬ -(m : Int) < -922337203685477580 := by omega
   by_cases p2 : m = 922337203685477580
   ·have r2 : (-(m : Int) == -922337203685477580) = true := by rw [beq_iff_eq]; omega
    by_cases p3 : 8 < v
    ·have r3 : (8 : Int) < (v : Int) := by omega
     simp -implicitDefEqProofs only [go_sem, ↓reduceIte, Nat.reduceEqDiff, Nat.reduceLT, Nat.reduceLeDiff, Nat.reduceAdd, Nat.reduceMul, Nat.reduceSub, reduceCtorEq, Nat.reduceMod, Nat.reduceBEq, Int.reduceBEq, Int.reduceBNe, Int.reduceToNat, f4, f5, f59, f60, hlti2, h02, Int.toNat_natCast, w1, w2, r1, r2, r3, gt_iff_lt, Bool.false_eq_true]
     refine hQ2 _ _ _ ?_
     simp -implicitDefEqProofs only [go_sem, ↓reduceIte, Nat.reduceEqDiff, Nat.reduceLT, Nat.reduceLeDiff, Nat.reduceAdd, Nat.reduceMul, Nat.reduceSub, reduceCtorEq, Nat.reduceMod, Nat.reduceBEq, Int.reduceBEq, Int.reduceBNe, Int.reduceToNat]
     exact ⟨_, fun _ _ h => h, over (by omega)⟩
    ·have r3 : ¬ (8 : Int) < (v : Int) := by omega
     have hle : 10 * m + v ≤ 9223372036854775808 := by omega
     simp -implicitDefEqProofs only [go_sem, ↓reduceIte, Nat.reduceEqDiff, Nat.reduceLT, Nat.reduceLeDiff, Nat.reduceAdd, Nat.reduceMul, Nat.reduceSub, reduceCtorEq, Nat.reduceMod, Nat.reduceBEq, Int.reduceBEq, Int.reduceBNe, Int.reduceToNat, f4, f5, f59, f60, hlti2, h02, Int.toNat_natCast, w1, w2, r1, r2, r3, gt_iff_lt, Bool.false_eq_true, hw2, w3 hle, w4 hle]
     refine vnext hJ2 hM2 S2 (fun _ _ h => h) ⟨rfl, k2 + 1, 10 * m + v, hlt2, hle, hr3, ?_, ?_, ?_, ?_, ?_⟩ ?_
     ·simp -implicitDefEqProofs only [go_sem, ↓reduceIte, Nat.reduceEqDiff, f0]
     ·simp -implicitDefEqProofs only [go_sem, ↓reduceIte, Nat.reduceEqDiff, f4]
     ·simp -implicitDefEqProofs only [go_sem, ↓reduceIte, Nat.reduceEqDiff]
     ·simp -implicitDefEqProofs only [go_sem, ↓reduceIte, Nat.reduceEqDiff, f59]
     ·simp -implicitDefEqProofs only [go_sem, ↓reduceIte, Nat.reduceEqDiff]
     ·simp -implicitDefEqProofs only [go_sem, ↓reduceIte, Nat.reduceEqDiff, f60, Int.toNat_natCast]
      omega
   ·have r2 : (-(m : Int) == -922337203685477580) = false := by rw [beq_eq_false_iff_ne]; omega
    have hle : 10 * m + v ≤ 9223372036854775808 := by omega
    simp -implicitDefEqProofs only [go_sem, ↓reduceIte, Nat.reduceEqDiff, Nat.reduceLT, Nat.reduceLeDiff, Nat.reduceAdd, Nat.reduceMul, Nat.reduceSub, reduceCtorEq, Nat.reduceMod, Nat.reduceBEq, Int.reduceBEq, Int.reduceBNe, Int.reduceToNat, f4, f5, f59, f60, hlti2, h02, Int.toNat_natCast, w1, w2, r1, r2, gt_iff_lt, Bool.false_eq_true, hw2, w3 hle, w4 hle]
    refine vnext hJ2 hM2 S2 (fun _ _ h => h) ⟨rfl, k2 + 1, 10 * m + v, hlt2, hle, hr3, ?_, ?_, ?_, ?_, ?_⟩ ?_
    ·simp -implicitDefEqProofs only [go_sem, ↓reduceIte, Nat.reduceEqDiff, f0]
    ·simp -implicitDefEqProofs only [go_sem, ↓reduceIte, Nat.reduceEqDiff, f4]
    ·simp -implicitDefEqProofs only [go_sem, ↓reduceIte, Nat.reduceEqDiff]
    ·simp -implicitDefEqProofs only [go_sem, ↓reduceIte, Nat.reduceEqDiff, f59]
    ·simp -implicitDefEqProofs only [go_sem, ↓reduceIte, Nat.reduceEqDiff]
    ·simp -implicitDefEqProofs only [go_sem, ↓reduceIte, Nat.reduceEqDiff, f60, Int.toNat_natCast]
     omega
  have hnl2 : ¬ (k2 : Int) < (d.size : Int) := by omega
  have hval : valD 0 (bl d 0) = m := by rw [hr2, bl_ge (by omega)]; rfl
  rw [hval, if_neg (by omega), hg] at hK
  simp -implicitDefEqProofs only [go_sem, ↓reduceIte, Nat.reduceEqDiff, Nat.reduceLT, Nat.reduceLeDiff, Nat.reduceAdd, Nat.reduceMul, Nat.reduceSub, reduceCtorEq, Nat.reduceMod, Nat.reduceBEq, Int.reduceBEq, Int.reduceBNe, Int.reduceToNat, f59, f60, hnl2]
  refine hQ2 _ _ _ ?_
  have hsz : (d.size : Int) < (s.size : Int) := by omega
  rw [if_pos rfl] at hK
  simp -implicitDefEqProofs only [go_sem, ↓reduceIte, Nat.reduceEqDiff, Nat.reduceLT, Nat.reduceLeDiff, Nat.reduceAdd, Nat.reduceMul, Nat.reduceSub, reduceCtorEq, Nat.reduceMod, Nat.reduceBEq, Int.reduceBEq, Int.reduceBNe, Int.reduceToNat, f0, f4, f5, hsz]
  exact ⟨_, fun _ _ h => h, hK _⟩
end Go.Proofs.YtdioedabjaaboaaGreat.V
