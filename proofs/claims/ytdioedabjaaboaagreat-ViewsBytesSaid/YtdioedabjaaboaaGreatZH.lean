/- Bytes of views: put, and got again. -/
import Derived.Test.YtdioedabjaaboaaGreatZG
import Derived.Test.YtdioedabjaaboaaGreatXM
set_option linter.unusedVariables false
set_option linter.unusedSimpArgs false
namespace Go.Proofs.YtdioedabjaaboaaGreat.V
open Go Go.VL

def viewB (w : Wv) : List UInt8 := numB w.kind.toNat ++ textB w.name ++ textB w.field ++ textB w.of_
theorem kindZ (z : Int) : ((z.toNat : Nat) : Int) = if 0 < z then z else 0 := by split <;> omega
theorem textB_le (t : ByteArray) (h : t.size ≤ 180000000000000) : (textB t).length ≤ t.size + 9 := by
 have := numB_len (n := t.size) (by omega)
 rw [textB_len]
 omega
theorem wPut_spec (b : List UInt8) (w : Wv) (hk : w.kind.toNat < 9223372036854775808) (ht : b.length + w.name.size + w.field.size + w.of_.size ≤ 170000000000000) (S : Store) : PRet Tryz.prog 36 [.sl .no 1 (encB b), .agg (encW w)] S (.sl .tail 1 (encB (b ++ viewB w))) := by
 intro K hK
 refine pcalls_of (C := C) (fun d => d == 0 || d == 4) (fun _ => false) Tryz.func36 rfl rfl (by simp [Tryz.f36]) ?_
 unfold encW
 have h1 := numB_len hk
 have h2 := textB_le w.name (by omega)
 have h3 := textB_le w.field (by omega)
 simp -implicitDefEqProofs only [go_sem, ↓reduceIte, Nat.reduceEqDiff, Nat.reduceLT, Nat.reduceLeDiff, Nat.reduceAdd, Nat.reduceMul, Nat.reduceSub, reduceCtorEq, Nat.reduceMod, Nat.reduceBEq, Int.reduceBEq, Int.reduceBNe, Int.reduceToNat, Tryz.f36]
 refine vwp_draw (by decide +kernel) ?_
 simp -implicitDefEqProofs only [go_sem, ↓reduceIte, Nat.reduceEqDiff, Nat.reduceLT, Nat.reduceLeDiff, Nat.reduceAdd, Nat.reduceMul, Nat.reduceSub, reduceCtorEq, Nat.reduceMod, Nat.reduceBEq, Int.reduceBEq, Int.reduceBNe, Int.reduceToNat]
 refine q_call _ (by simp -implicitDefEqProofs only [go_sem, ↓reduceIte, Nat.reduceEqDiff]; exact wnumber_spec _ _ _ (kindZ _) hk (by omega) _) (by decide) rfl ?_
 simp -implicitDefEqProofs only [go_sem, ↓reduceIte, Nat.reduceEqDiff, Nat.reduceLT, Nat.reduceLeDiff, Nat.reduceAdd, Nat.reduceMul, Nat.reduceSub, reduceCtorEq, Nat.reduceMod, Nat.reduceBEq, Int.reduceBEq, Int.reduceBNe, Int.reduceToNat]
 refine q_call _ (by simp -implicitDefEqProofs only [go_sem, ↓reduceIte, Nat.reduceEqDiff]; exact wtext_spec _ _ (by simp only [List.length_append]; omega) _) (by decide) rfl ?_
 simp -implicitDefEqProofs only [go_sem, ↓reduceIte, Nat.reduceEqDiff, Nat.reduceLT, Nat.reduceLeDiff, Nat.reduceAdd, Nat.reduceMul, Nat.reduceSub, reduceCtorEq, Nat.reduceMod, Nat.reduceBEq, Int.reduceBEq, Int.reduceBNe, Int.reduceToNat]
 refine vwp_draw (by decide +kernel) ?_
 simp -implicitDefEqProofs only [go_sem, ↓reduceIte, Nat.reduceEqDiff, Nat.reduceLT, Nat.reduceLeDiff, Nat.reduceAdd, Nat.reduceMul, Nat.reduceSub, reduceCtorEq, Nat.reduceMod, Nat.reduceBEq, Int.reduceBEq, Int.reduceBNe, Int.reduceToNat]
 refine q_call _ (by simp -implicitDefEqProofs only [go_sem, ↓reduceIte, Nat.reduceEqDiff]; exact wtext_spec _ _ (by simp only [List.length_append]; omega) _) (by decide) rfl ?_
 simp -implicitDefEqProofs only [go_sem, ↓reduceIte, Nat.reduceEqDiff, Nat.reduceLT, Nat.reduceLeDiff, Nat.reduceAdd, Nat.reduceMul, Nat.reduceSub, reduceCtorEq, Nat.reduceMod, Nat.reduceBEq, Int.reduceBEq, Int.reduceBNe, Int.reduceToNat]
 refine q_call _ (by simp -implicitDefEqProofs only [go_sem, ↓reduceIte, Nat.reduceEqDiff]; exact wtext_spec _ _ (by simp only [List.length_append]; omega) _) (by decide) rfl ?_
 simp -implicitDefEqProofs only [go_sem, ↓reduceIte, Nat.reduceEqDiff, Nat.reduceLT, Nat.reduceLeDiff, Nat.reduceAdd, Nat.reduceMul, Nat.reduceSub, reduceCtorEq, Nat.reduceMod, Nat.reduceBEq, Int.reduceBEq, Int.reduceBNe, Int.reduceToNat]
 unfold viewB at hK
 simp only [← List.append_assoc] at hK
 exact ⟨S, fun _ _ h => h, hK⟩
theorem rPut_spec (b : List UInt8) (w : Wv) (hk : w.kind.toNat < 9223372036854775808) (ht : b.length + w.name.size + w.field.size + w.of_.size ≤ 170000000000000) (S : Store) : PRet Tryz.prog 37 [.sl .no 1 (encB b), .agg (encW w)] S (.sl .tail 1 (encB (b ++ viewB w))) := by
 intro K hK
 refine pcalls_of (C := C) (fun d => d == 0 || d == 4) (fun _ => false) Tryz.func37 rfl rfl (by simp [Tryz.f37]) ?_
 unfold encW
 have h1 := numB_len hk
 have h2 := textB_le w.name (by omega)
 have h3 := textB_le w.field (by omega)
 simp -implicitDefEqProofs only [go_sem, ↓reduceIte, Nat.reduceEqDiff, Nat.reduceLT, Nat.reduceLeDiff, Nat.reduceAdd, Nat.reduceMul, Nat.reduceSub, reduceCtorEq, Nat.reduceMod, Nat.reduceBEq, Int.reduceBEq, Int.reduceBNe, Int.reduceToNat, Tryz.f37]
 refine vwp_draw (by decide +kernel) ?_
 simp -implicitDefEqProofs only [go_sem, ↓reduceIte, Nat.reduceEqDiff, Nat.reduceLT, Nat.reduceLeDiff, Nat.reduceAdd, Nat.reduceMul, Nat.reduceSub, reduceCtorEq, Nat.reduceMod, Nat.reduceBEq, Int.reduceBEq, Int.reduceBNe, Int.reduceToNat]
 refine q_call _ (by simp -implicitDefEqProofs only [go_sem, ↓reduceIte, Nat.reduceEqDiff]; exact rnumber_spec _ _ _ (kindZ _) hk (by omega) _) (by decide) rfl ?_
 simp -implicitDefEqProofs only [go_sem, ↓reduceIte, Nat.reduceEqDiff, Nat.reduceLT, Nat.reduceLeDiff, Nat.reduceAdd, Nat.reduceMul, Nat.reduceSub, reduceCtorEq, Nat.reduceMod, Nat.reduceBEq, Int.reduceBEq, Int.reduceBNe, Int.reduceToNat]
 refine q_call _ (by simp -implicitDefEqProofs only [go_sem, ↓reduceIte, Nat.reduceEqDiff]; exact rtext_spec _ _ (by simp only [List.length_append]; omega) _) (by decide) rfl ?_
 simp -implicitDefEqProofs only [go_sem, ↓reduceIte, Nat.reduceEqDiff, Nat.reduceLT, Nat.reduceLeDiff, Nat.reduceAdd, Nat.reduceMul, Nat.reduceSub, reduceCtorEq, Nat.reduceMod, Nat.reduceBEq, Int.reduceBEq, Int.reduceBNe, Int.reduceToNat]
 refine vwp_draw (by decide +kernel) ?_
 simp -implicitDefEqProofs only [go_sem, ↓reduceIte, Nat.reduceEqDiff, Nat.reduceLT, Nat.reduceLeDiff, Nat.reduceAdd, Nat.reduceMul, Nat.reduceSub, reduceCtorEq, Nat.reduceMod, Nat.reduceBEq, Int.reduceBEq, Int.reduceBNe, Int.reduceToNat]
 refine q_call _ (by simp -implicitDefEqProofs only [go_sem, ↓reduceIte, Nat.reduceEqDiff]; exact rtext_spec _ _ (by simp only [List.length_append]; omega) _) (by decide) rfl ?_
 simp -implicitDefEqProofs only [go_sem, ↓reduceIte, Nat.reduceEqDiff, Nat.reduceLT, Nat.reduceLeDiff, Nat.reduceAdd, Nat.reduceMul, Nat.reduceSub, reduceCtorEq, Nat.reduceMod, Nat.reduceBEq, Int.reduceBEq, Int.reduceBNe, Int.reduceToNat]
 refine q_call _ (by simp -implicitDefEqProofs only [go_sem, ↓reduceIte, Nat.reduceEqDiff]; exact rtext_spec _ _ (by simp only [List.length_append]; omega) _) (by decide) rfl ?_
 simp -implicitDefEqProofs only [go_sem, ↓reduceIte, Nat.reduceEqDiff, Nat.reduceLT, Nat.reduceLeDiff, Nat.reduceAdd, Nat.reduceMul, Nat.reduceSub, reduceCtorEq, Nat.reduceMod, Nat.reduceBEq, Int.reduceBEq, Int.reduceBNe, Int.reduceToNat]
 unfold viewB at hK
 simp only [← List.append_assoc] at hK
 exact ⟨S, fun _ _ h => h, hK⟩
theorem rNum_okk {s : Rd} (ok : s.Ok) : (rNum s).2.Ok := by
 have h1 := ok.1
 have h2 := ok.2
 have hb := rdNum_lt (s.b.drop s.p)
 rw [List.length_drop] at hb
 unfold rNum
 by_cases he : s.e = 0
 ·rw [if_pos he]
  split
  ·exact ⟨by dsimp only; omega, h2⟩
  ·exact ⟨h1, h2⟩
 ·rw [if_neg he]
  exact ok
def getV (s : Rd) : Wv × Rd :=
 (⟨(rText 32 (rNum s).2).1, (rNum s).1, (rText 32 (rText 32 (rNum s).2).2).1, (rText 32 (rText 32 (rText 32 (rNum s).2).2).2).1⟩, (rText 32 (rText 32 (rText 32 (rNum s).2).2).2).2)
set_option maxHeartbeats 1000000 in
theorem wGet_calls {S : Store} {id : Nat} {s : Rd} (hs : S id = some (wcells s)) (ok : s.Ok) (K : PV → Store → Prop) (hK : K (.agg (encW (getV s).1)) (S.set id (some (wcells (getV s).2)))) : PCalls Tryz.prog 39 [.ref id 0] S K := by
 have o1 := rNum_okk ok
 have o2 := (rText_went o1 32).1
 have o3 := (rText_went o2 32).1
 unfold getV encW at hK
 dsimp only at hK
 refine pcalls_of (C := C) (fun _ => false) (fun _ => false) Tryz.func39 rfl rfl (by simp [Tryz.f39]) ?_
 simp -implicitDefEqProofs only [go_sem, ↓reduceIte, Nat.reduceEqDiff, Nat.reduceLT, Nat.reduceLeDiff, Nat.reduceAdd, Nat.reduceMul, Nat.reduceSub, reduceCtorEq, Nat.reduceMod, Nat.reduceBEq, Int.reduceBEq, Int.reduceBNe, Int.reduceToNat, Tryz.f39]
 refine wNum_calls hs ok _ ?_
 simp -implicitDefEqProofs only [go_sem, ↓reduceIte, Nat.reduceEqDiff, Nat.reduceLT, Nat.reduceLeDiff, Nat.reduceAdd, Nat.reduceMul, Nat.reduceSub, reduceCtorEq, Nat.reduceMod, Nat.reduceBEq, Int.reduceBEq, Int.reduceBNe, Int.reduceToNat]
 refine wText_calls (set_at S id (some (wcells (rNum s).2))) o1 32 _ ?_
 rw [set_set]
 simp -implicitDefEqProofs only [go_sem, ↓reduceIte, Nat.reduceEqDiff, Nat.reduceLT, Nat.reduceLeDiff, Nat.reduceAdd, Nat.reduceMul, Nat.reduceSub, reduceCtorEq, Nat.reduceMod, Nat.reduceBEq, Int.reduceBEq, Int.reduceBNe, Int.reduceToNat]
 refine wText_calls (set_at S id _) o2 32 _ ?_
 rw [set_set]
 simp -implicitDefEqProofs only [go_sem, ↓reduceIte, Nat.reduceEqDiff, Nat.reduceLT, Nat.reduceLeDiff, Nat.reduceAdd, Nat.reduceMul, Nat.reduceSub, reduceCtorEq, Nat.reduceMod, Nat.reduceBEq, Int.reduceBEq, Int.reduceBNe, Int.reduceToNat]
 refine wText_calls (set_at S id _) o3 32 _ ?_
 rw [set_set]
 simp -implicitDefEqProofs only [go_sem, ↓reduceIte, Nat.reduceEqDiff, Nat.reduceLT, Nat.reduceLeDiff, Nat.reduceAdd, Nat.reduceMul, Nat.reduceSub, reduceCtorEq, Nat.reduceMod, Nat.reduceBEq, Int.reduceBEq, Int.reduceBNe, Int.reduceToNat]
 exact ⟨_, fun _ _ h => h, hK⟩
set_option maxHeartbeats 1000000 in
theorem rTake_calls {S : Store} {id : Nat} {s : Rd} (hs : S id = some (rcells s)) (ok : s.Ok) (K : PV → Store → Prop) (hK : K (.agg (encW (getV s).1)) (S.set id (some (rcells (getV s).2)))) : PCalls Tryz.prog 42 [.ref id 0] S K := by
 have o1 := rNum_okk ok
 have o2 := (rText_went o1 32).1
 have o3 := (rText_went o2 32).1
 unfold getV encW at hK
 dsimp only at hK
 refine pcalls_of (C := C) (fun _ => false) (fun _ => false) Tryz.func42 rfl rfl (by simp [Tryz.f42]) ?_
 simp -implicitDefEqProofs only [go_sem, ↓reduceIte, Nat.reduceEqDiff, Nat.reduceLT, Nat.reduceLeDiff, Nat.reduceAdd, Nat.reduceMul, Nat.reduceSub, reduceCtorEq, Nat.reduceMod, Nat.reduceBEq, Int.reduceBEq, Int.reduceBNe, Int.reduceToNat, Tryz.f42]
 refine rNum_calls hs ok _ ?_
 simp -implicitDefEqProofs only [go_sem, ↓reduceIte, Nat.reduceEqDiff, Nat.reduceLT, Nat.reduceLeDiff, Nat.reduceAdd, Nat.reduceMul, Nat.reduceSub, reduceCtorEq, Nat.reduceMod, Nat.reduceBEq, Int.reduceBEq, Int.reduceBNe, Int.reduceToNat]
 refine rText_calls (set_at S id (some (rcells (rNum s).2))) o1 32 _ ?_
 rw [set_set]
 simp -implicitDefEqProofs only [go_sem, ↓reduceIte, Nat.reduceEqDiff, Nat.reduceLT, Nat.reduceLeDiff, Nat.reduceAdd, Nat.reduceMul, Nat.reduceSub, reduceCtorEq, Nat.reduceMod, Nat.reduceBEq, Int.reduceBEq, Int.reduceBNe, Int.reduceToNat]
 refine rText_calls (set_at S id _) o2 32 _ ?_
 rw [set_set]
 simp -implicitDefEqProofs only [go_sem, ↓reduceIte, Nat.reduceEqDiff, Nat.reduceLT, Nat.reduceLeDiff, Nat.reduceAdd, Nat.reduceMul, Nat.reduceSub, reduceCtorEq, Nat.reduceMod, Nat.reduceBEq, Int.reduceBEq, Int.reduceBNe, Int.reduceToNat]
 refine rText_calls (set_at S id _) o3 32 _ ?_
 rw [set_set]
 simp -implicitDefEqProofs only [go_sem, ↓reduceIte, Nat.reduceEqDiff, Nat.reduceLT, Nat.reduceLeDiff, Nat.reduceAdd, Nat.reduceMul, Nat.reduceSub, reduceCtorEq, Nat.reduceMod, Nat.reduceBEq, Int.reduceBEq, Int.reduceBNe, Int.reduceToNat]
 exact ⟨_, fun _ _ h => h, hK⟩
theorem rNum_put {b rest : List UInt8} {p n : Nat} (h : b.drop p = numB n ++ rest) (hn : n < 9223372036854775808) : rNum ⟨b, p, 0⟩ = (n, ⟨b, p + (numB n).length, 0⟩) := by
 unfold rNum
 dsimp only
 rw [if_pos rfl, h, rdNum_numB hn]
 rfl
theorem name_size {s : ByteArray} (h : nameQ s = true) : s.size ≤ 32 := by
 unfold nameQ allP at h
 rw [Bool.and_eq_true, Bool.and_eq_true, decide_eq_true_eq, decide_eq_true_eq] at h
 have := runes_size s s.size 0 (by omega)
 omega
theorem vcheck_size {w : Wv} (h : vcheck w = 0) : w.name.size ≤ 32 ∧ w.field.size ≤ 32 ∧ w.of_.size ≤ 32 ∧ 1 ≤ w.kind ∧ w.kind ≤ 3 := by
 unfold vcheck at h
 split at h
 ·rename_i h1
  split at h
  ·rename_i h2
   split at h
   ·rename_i h3
    split at h
    ·cases h
    ·rename_i h4
     refine ⟨name_size h1, name_size h2, ?_, by omega, by omega⟩
     unfold ofQ at h3
     split at h3
     ·exact name_size h3
     ·have := same_iff.1 h3
      rw [this]
      decide
   ·cases h
  ·cases h
 ·cases h
theorem getV_put {w : Wv} (h : vcheck w = 0) (rest : List UInt8) : getV ⟨viewB w ++ rest, 0, 0⟩ = (w, ⟨viewB w ++ rest, (viewB w).length, 0⟩) := by
 obtain ⟨s1, s2, s3, k1, k2⟩ := vcheck_size h
 obtain ⟨B, hB⟩ : ∃ B, B = viewB w ++ rest := ⟨_, rfl⟩
 have d0 : B.drop 0 = numB w.kind.toNat ++ (textB w.name ++ (textB w.field ++ (textB w.of_ ++ rest))) := by
  rw [hB]; unfold viewB; simp only [List.drop_zero, List.append_assoc]
 have d1 := (drop_app d0).1
 have d2 := (drop_app d1).1
 have d3 := (drop_app d2).1
 have e0 := rNum_put d0 (by omega)
 have e1 := rText_put d1 s1 (m := 32) (by decide)
 have e2 := rText_put d2 s2 (m := 32) (by decide)
 have e3 := rText_put d3 s3 (m := 32) (by decide)
 have hl : (viewB w).length = 0 + (numB w.kind.toNat).length + (textB w.name).length + (textB w.field).length + (textB w.of_).length := by
  unfold viewB; simp only [List.length_append]; omega
 have hkk : ((w.kind.toNat : Nat) : Int) = w.kind := by omega
 unfold getV
 rw [← hB, e0]
 dsimp only
 rw [e1]
 dsimp only
 rw [e2]
 dsimp only
 rw [e3]
 dsimp only
 rw [hkk, hl]
end Go.Proofs.YtdioedabjaaboaaGreat.V
