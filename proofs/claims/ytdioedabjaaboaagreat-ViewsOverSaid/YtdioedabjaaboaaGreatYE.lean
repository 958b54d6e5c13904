/- Views: the document's fields, and whether a view may be. -/
import Derived.Test.YtdioedabjaaboaaGreatYD
set_option linter.unusedVariables false
set_option linter.unusedSimpArgs false
namespace Go.Proofs.YtdioedabjaaboaaGreat.V
open Go Go.VL

theorem fieldOf_none {n p : ByteArray} (h : colon p 0 = none) : fieldOf n p = none := by unfold fieldOf; rw [h]
theorem same_size {a b : ByteArray} (h : same a b = true) : a.size = b.size := by rw [same_iff.1 h]
set_option maxHeartbeats 4000000 in
theorem RField_spec (v n : ByteArray) (hv : v.size ≤ 1000000) (S : Store) : PRet Tryz.prog 46 [.str v, .str n] S (encFd (fieldF v n)) := by
 intro K hK
 refine pcalls_of (C := C) (fun _ => false) (fun _ => false) Tryz.func46 rfl rfl (by simp [Tryz.f46]) ?_
 simp -implicitDefEqProofs only [go_sem, ↓reduceIte, Nat.reduceEqDiff, Nat.reduceLT, Nat.reduceLeDiff, Nat.reduceAdd, Nat.reduceMul, Nat.reduceSub, reduceCtorEq, Nat.reduceMod, Nat.reduceBEq, Int.reduceBEq, Int.reduceBNe, Int.reduceToNat, Tryz.f46]
 refine RParts_spec v hv 32 _ _ ?_
 have hpl := partsF_len v 32
 have hpf := partsF_fit v 32
 unfold fieldF at hK
 obtain ⟨L, hL⟩ : ∃ L, L = partsF v 32 := ⟨_, rfl⟩
 rw [← hL] at hK hpl hpf ⊢
 simp -implicitDefEqProofs only [go_sem, ↓reduceIte, Nat.reduceEqDiff, Nat.reduceLT, Nat.reduceLeDiff, Nat.reduceAdd, Nat.reduceMul, Nat.reduceSub, reduceCtorEq, Nat.reduceMod, Nat.reduceBEq, Int.reduceBEq, Int.reduceBNe, Int.reduceToNat]
 refine vloop (fun e S' => S' = S ∧ ∃ k : Nat, k ≤ L.length ∧ L.findSome? (fieldOf n) = (L.drop k).findSome? (fieldOf n) ∧ e 1 = .str n ∧ e 10 = .sl .tail 1 (encS L) ∧ e 11 = .int .i64 L.length ∧ e 12 = .int .i64 k) (fun e _ => L.length - iv (e 12)) ?_ ?_
 ·exact ⟨rfl, 0, Nat.zero_le _, rfl, rfl, by simp -implicitDefEqProofs only [go_sem, ↓reduceIte, Nat.reduceEqDiff], by simp -implicitDefEqProofs only [go_sem, ↓reduceIte, Nat.reduceEqDiff], by simp -implicitDefEqProofs only [go_sem, ↓reduceIte, Nat.reduceEqDiff]⟩
 ·rintro J M Q' hJ hM hQ e S' ⟨rfl, k, hk, hr, e1, e10, e11, e12⟩
  by_cases hlt : k < L.length
  ·obtain ⟨p, hp⟩ : ∃ p, L[k]? = some p := ⟨L[k], List.getElem?_eq_getElem hlt⟩
   have hps : p.size ≤ 1000000 := Nat.le_trans (hpf p (List.mem_of_getElem? hp)) hv
   have hlti : (k : Int) < (L.length : Int) := by omega
   have h0 : (0 : Int) ≤ (k : Int) ∧ (k : Int) < (L.length : Int) := by omega
   have hw : IntKind.i64.wrap ((k : Int) + 1) = ((k + 1 : Nat) : Int) := wrap64 (by omega) (by omega)
   simp -implicitDefEqProofs only [go_sem, ↓reduceIte, Nat.reduceEqDiff, Nat.reduceLT, Nat.reduceLeDiff, Nat.reduceAdd, Nat.reduceMul, Nat.reduceSub, reduceCtorEq, Nat.reduceMod, Nat.reduceBEq, Int.reduceBEq, Int.reduceBNe, Int.reduceToNat, e1, e10, e11, e12, hlti, h0, Int.toNat_natCast, getD_encS hp]
   refine RParts_spec p hps 58 _ _ ?_
   have next : fieldOf n p = none → ∃ x : Nat, x = k + 1 ∧ L.findSome? (fieldOf n) = (L.drop x).findSome? (fieldOf n) := fun h => ⟨k + 1, rfl, by rw [hr, fs_none hp h]⟩
   unfold partsF
   rcases parts_colon p p.size 0 (by omega) (Nat.zero_le _) with ⟨i, hc, hip, r, hne, hpe⟩ | ⟨hc, x, hpe⟩
   ·rw [hpe]
    have hlen : (1 : Int) < ((r.length + 1 : Nat) : Int) := by
     have : r.length ≠ 0 := fun h => hne (List.eq_nil_of_length_eq_zero h)
     omega
    have hl0 : (0 : Int) ≤ 0 ∧ (0 : Int) < ((r.length + 1 : Nat) : Int) := by omega
    have hg0 : (encS (p.extract 0 i :: r)).getD 0 [] = [.str (p.extract 0 i)] := rfl
    cases hs : same (p.extract 0 i) n
    ·obtain ⟨_, _, hn⟩ := next (by unfold fieldOf; rw [hc]; simp [hs])
     simp -implicitDefEqProofs only [go_sem, ↓reduceIte, Nat.reduceEqDiff, Nat.reduceLT, Nat.reduceLeDiff, Nat.reduceAdd, Nat.reduceMul, Nat.reduceSub, reduceCtorEq, Nat.reduceMod, Nat.reduceBEq, Int.reduceBEq, Int.reduceBNe, Int.reduceToNat, e1, gt_iff_lt, hlen, hl0, Int.toNat_zero, hg0, hs, Bool.false_eq_true, e12, hw]
     have hn : L.findSome? (fieldOf n) = (L.drop (k + 1)).findSome? (fieldOf n) := by rw [hr, fs_none hp (by unfold fieldOf; rw [hc]; simp [hs])]
     refine vnext hJ hM S' (fun _ _ h => h) ⟨rfl, k + 1, hlt, hn, ?_, ?_, ?_, ?_⟩ ?_
     ·simp -implicitDefEqProofs only [go_sem, ↓reduceIte, Nat.reduceEqDiff, e1]
     ·simp -implicitDefEqProofs only [go_sem, ↓reduceIte, Nat.reduceEqDiff, e10]
     ·simp -implicitDefEqProofs only [go_sem, ↓reduceIte, Nat.reduceEqDiff, e11]
     ·simp -implicitDefEqProofs only [go_sem, ↓reduceIte, Nat.reduceEqDiff]
     ·simp -implicitDefEqProofs only [go_sem, ↓reduceIte, Nat.reduceEqDiff, e12, Int.toNat_natCast]
      omega
    ·have hni : n.size = i := by
      have := same_size hs
      rw [ByteArray.size_extract] at this
      omega
     have hwi : IntKind.i64.wrap ((n.size : Int) + 1) = ((i + 1 : Nat) : Int) := by rw [hni]; exact wrap64 (by omega) (by omega)
     have hsl : (0 : Int) ≤ ((i + 1 : Nat) : Int) ∧ ((i + 1 : Nat) : Int) ≤ (p.size : Int) := by omega
     have hfo : fieldOf n p = some (p.extract (i + 1) p.size) := by unfold fieldOf; rw [hc]; simp [hs]
     rw [fs_some hp hfo] at hr
     rw [hr] at hK
     simp -implicitDefEqProofs only [go_sem, ↓reduceIte, Nat.reduceEqDiff, Nat.reduceLT, Nat.reduceLeDiff, Nat.reduceAdd, Nat.reduceMul, Nat.reduceSub, reduceCtorEq, Nat.reduceMod, Nat.reduceBEq, Int.reduceBEq, Int.reduceBNe, Int.reduceToNat, e1, gt_iff_lt, hlen, hl0, Int.toNat_zero, hg0, hs, hwi, hsl, Int.le_refl, Int.toNat_natCast]
     refine hQ _ _ _ ?_
     simp -implicitDefEqProofs only [go_sem, ↓reduceIte, Nat.reduceEqDiff, Nat.reduceLT, Nat.reduceLeDiff, Nat.reduceAdd, Nat.reduceMul, Nat.reduceSub, reduceCtorEq, Nat.reduceMod, Nat.reduceBEq, Int.reduceBEq, Int.reduceBNe, Int.reduceToNat]
     exact ⟨S', fun _ _ h => h, hK⟩
   ·rw [hpe]
    have hlen : ¬ (1 : Int) < ((0 + 1 : Nat) : Int) := by decide
    have hn : L.findSome? (fieldOf n) = (L.drop (k + 1)).findSome? (fieldOf n) := by rw [hr, fs_none hp (fieldOf_none hc)]
    simp -implicitDefEqProofs only [go_sem, ↓reduceIte, Nat.reduceEqDiff, Nat.reduceLT, Nat.reduceLeDiff, Nat.reduceAdd, Nat.reduceMul, Nat.reduceSub, reduceCtorEq, Nat.reduceMod, Nat.reduceBEq, Int.reduceBEq, Int.reduceBNe, Int.reduceToNat, e1, gt_iff_lt, hlen, Bool.false_eq_true, e12, hw]
    refine vnext hJ hM S' (fun _ _ h => h) ⟨rfl, k + 1, hlt, hn, ?_, ?_, ?_, ?_⟩ ?_
    ·simp -implicitDefEqProofs only [go_sem, ↓reduceIte, Nat.reduceEqDiff, e1]
    ·simp -implicitDefEqProofs only [go_sem, ↓reduceIte, Nat.reduceEqDiff, e10]
    ·simp -implicitDefEqProofs only [go_sem, ↓reduceIte, Nat.reduceEqDiff, e11]
    ·simp -implicitDefEqProofs only [go_sem, ↓reduceIte, Nat.reduceEqDiff]
    ·simp -implicitDefEqProofs only [go_sem, ↓reduceIte, Nat.reduceEqDiff, e12, Int.toNat_natCast]
     omega
  ·have hnl : ¬ (k : Int) < (L.length : Int) := by omega
   rw [List.drop_of_length_le (by omega)] at hr
   rw [hr] at hK
   simp -implicitDefEqProofs only [go_sem, ↓reduceIte, Nat.reduceEqDiff, Nat.reduceLT, Nat.reduceLeDiff, Nat.reduceAdd, Nat.reduceMul, Nat.reduceSub, reduceCtorEq, Nat.reduceMod, Nat.reduceBEq, Int.reduceBEq, Int.reduceBNe, Int.reduceToNat, e11, e12, hnl]
   refine hQ _ _ _ ?_
   simp -implicitDefEqProofs only [go_sem, ↓reduceIte, Nat.reduceEqDiff, Nat.reduceLT, Nat.reduceLeDiff, Nat.reduceAdd, Nat.reduceMul, Nat.reduceSub, reduceCtorEq, Nat.reduceMod, Nat.reduceBEq, Int.reduceBEq, Int.reduceBNe, Int.reduceToNat]
   exact ⟨S', fun _ _ h => h, hK⟩
/-- Texts that are not long. -/
def FitW (w : Wv) : Prop := w.name.size ≤ 140737488355328 ∧ w.field.size ≤ 140737488355328 ∧ w.of_.size ≤ 140737488355328
set_option maxHeartbeats 4000000 in
theorem RCheck_spec (w : Wv) (hw : FitW w) (S : Store) : PRet Tryz.prog 21 [.agg (encW w)] S (.int .i64 (vcheck w)) := by
 intro K hK
 refine pcalls_of (C := C) (fun _ => false) (fun _ => false) Tryz.func21 rfl rfl (by simp [Tryz.f21]) ?_
 unfold encW
 unfold vcheck ofQ at hK
 have e0 : same ⟨#[]⟩ ⟨#[]⟩ = true := same_refl _
 simp -implicitDefEqProofs only [go_sem, ↓reduceIte, Nat.reduceEqDiff, Nat.reduceLT, Nat.reduceLeDiff, Nat.reduceAdd, Nat.reduceMul, Nat.reduceSub, reduceCtorEq, Nat.reduceMod, Nat.reduceBEq, Int.reduceBEq, Int.reduceBNe, Int.reduceToNat, Tryz.f21]
 refine RName_spec w.name hw.1 _ _ ?_
 cases h1 : nameQ w.name
 ·rw [h1] at hK
  simp -implicitDefEqProofs only [go_sem, ↓reduceIte, Nat.reduceEqDiff, Nat.reduceLT, Nat.reduceLeDiff, Nat.reduceAdd, Nat.reduceMul, Nat.reduceSub, reduceCtorEq, Nat.reduceMod, Nat.reduceBEq, Int.reduceBEq, Int.reduceBNe, Int.reduceToNat, Bool.false_eq_true, n22, n0]
  exact ⟨S, fun _ _ h => h, hK⟩
 rw [h1] at hK
 simp -implicitDefEqProofs only [go_sem, ↓reduceIte, Nat.reduceEqDiff, Nat.reduceLT, Nat.reduceLeDiff, Nat.reduceAdd, Nat.reduceMul, Nat.reduceSub, reduceCtorEq, Nat.reduceMod, Nat.reduceBEq, Int.reduceBEq, Int.reduceBNe, Int.reduceToNat, n0, Bool.false_eq_true]
 refine RName_spec w.field hw.2.1 _ _ ?_
 cases h2 : nameQ w.field
 ·rw [h2] at hK
  simp -implicitDefEqProofs only [go_sem, ↓reduceIte, Nat.reduceEqDiff, Nat.reduceLT, Nat.reduceLeDiff, Nat.reduceAdd, Nat.reduceMul, Nat.reduceSub, reduceCtorEq, Nat.reduceMod, Nat.reduceBEq, Int.reduceBEq, Int.reduceBNe, Int.reduceToNat, Bool.false_eq_true, n22, n0]
  exact ⟨S, fun _ _ h => h, hK⟩
 rw [h2] at hK
 by_cases h3 : w.kind = 3
 ·have k3 : (w.kind == 3) = true := by rw [h3]; rfl
  have k4 : (w.kind != 3) = false := by rw [h3]; rfl
  rw [if_pos h3] at hK
  simp -implicitDefEqProofs only [go_sem, ↓reduceIte, Nat.reduceEqDiff, Nat.reduceLT, Nat.reduceLeDiff, Nat.reduceAdd, Nat.reduceMul, Nat.reduceSub, reduceCtorEq, Nat.reduceMod, Nat.reduceBEq, Int.reduceBEq, Int.reduceBNe, Int.reduceToNat, n0, Bool.false_eq_true, k3]
  refine RName_spec w.of_ hw.2.2 _ _ ?_
  cases h4 : nameQ w.of_
  ·rw [h4] at hK
   simp -implicitDefEqProofs only [go_sem, ↓reduceIte, Nat.reduceEqDiff, Nat.reduceLT, Nat.reduceLeDiff, Nat.reduceAdd, Nat.reduceMul, Nat.reduceSub, reduceCtorEq, Nat.reduceMod, Nat.reduceBEq, Int.reduceBEq, Int.reduceBNe, Int.reduceToNat, Bool.false_eq_true, n22, n0]
   exact ⟨S, fun _ _ h => h, hK⟩
  rw [h4] at hK
  have l1 : ¬ w.kind < 1 := by omega
  have l3 : ¬ (3 : Int) < w.kind := by omega
  simp only [if_true, if_neg (show ¬ (w.kind < 1 ∨ 3 < w.kind) by omega)] at hK
  simp -implicitDefEqProofs only [go_sem, ↓reduceIte, Nat.reduceEqDiff, Nat.reduceLT, Nat.reduceLeDiff, Nat.reduceAdd, Nat.reduceMul, Nat.reduceSub, reduceCtorEq, Nat.reduceMod, Nat.reduceBEq, Int.reduceBEq, Int.reduceBNe, Int.reduceToNat, n0, Bool.false_eq_true, k3, k4, gt_iff_lt, l1, l3]
  exact ⟨S, fun _ _ h => h, hK⟩
 ·have k3 : (w.kind == 3) = false := beq_eq_false_iff_ne.2 h3
  have k4 : (w.kind != 3) = true := by simp [h3]
  rw [if_neg h3] at hK
  cases h4 : same w.of_ ⟨#[]⟩
  ·rw [h4] at hK
   simp -implicitDefEqProofs only [go_sem, ↓reduceIte, Nat.reduceEqDiff, Nat.reduceLT, Nat.reduceLeDiff, Nat.reduceAdd, Nat.reduceMul, Nat.reduceSub, reduceCtorEq, Nat.reduceMod, Nat.reduceBEq, Int.reduceBEq, Int.reduceBNe, Int.reduceToNat, n0, Bool.false_eq_true, k3, k4, h4, Bool.not_false]
   exact ⟨S, fun _ _ h => h, hK⟩
  rw [h4] at hK
  by_cases l1 : w.kind < 1
  ·simp only [if_true, if_pos (show (w.kind < 1 ∨ 3 < w.kind) from .inl l1)] at hK
   simp -implicitDefEqProofs only [go_sem, ↓reduceIte, Nat.reduceEqDiff, Nat.reduceLT, Nat.reduceLeDiff, Nat.reduceAdd, Nat.reduceMul, Nat.reduceSub, reduceCtorEq, Nat.reduceMod, Nat.reduceBEq, Int.reduceBEq, Int.reduceBNe, Int.reduceToNat, n0, Bool.false_eq_true, k3, k4, h4, Bool.not_true, gt_iff_lt, l1]
   exact ⟨S, fun _ _ h => h, hK⟩
  ·by_cases l3 : (3 : Int) < w.kind
   ·simp only [if_true, if_pos (show (w.kind < 1 ∨ 3 < w.kind) from .inr l3)] at hK
    simp -implicitDefEqProofs only [go_sem, ↓reduceIte, Nat.reduceEqDiff, Nat.reduceLT, Nat.reduceLeDiff, Nat.reduceAdd, Nat.reduceMul, Nat.reduceSub, reduceCtorEq, Nat.reduceMod, Nat.reduceBEq, Int.reduceBEq, Int.reduceBNe, Int.reduceToNat, n0, Bool.false_eq_true, k3, k4, h4, Bool.not_true, gt_iff_lt, l1, l3]
    exact ⟨S, fun _ _ h => h, hK⟩
   ·simp only [if_true, if_neg (show ¬ (w.kind < 1 ∨ 3 < w.kind) by omega)] at hK
    simp -implicitDefEqProofs only [go_sem, ↓reduceIte, Nat.reduceEqDiff, Nat.reduceLT, Nat.reduceLeDiff, Nat.reduceAdd, Nat.reduceMul, Nat.reduceSub, reduceCtorEq, Nat.reduceMod, Nat.reduceBEq, Int.reduceBEq, Int.reduceBNe, Int.reduceToNat, n0, Bool.false_eq_true, k3, k4, h4, Bool.not_true, gt_iff_lt, l1, l3]
    exact ⟨S, fun _ _ h => h, hK⟩
end Go.Proofs.YtdioedabjaaboaaGreat.V
