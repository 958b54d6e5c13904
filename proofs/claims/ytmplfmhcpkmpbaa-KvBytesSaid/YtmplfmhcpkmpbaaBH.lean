/- Bytes: operations as bytes, and read again. (printed by mkBH.py) -/
import Derived.Test.YtmplfmhcpkmpbaaBG
set_option linter.unusedVariables false
set_option linter.unusedSimpArgs false
namespace Go.Proofs.Ytmplfmhcpkmpbaa.V
open Go Go.VL

def opB (o : KO) : List UInt8 := textB o.k ++ flagB o.has ++ textB o.v
def opsB : List KO → List UInt8
  | [] => []
  | o :: l => opB o ++ opsB l
def putB (l : List KO) : List UInt8 := numB l.length ++ opsB l
theorem opsB_app : ∀ a b : List KO, opsB (a ++ b) = opsB a ++ opsB b
  | [], b => rfl
  | o :: a, b => by
    show opB o ++ opsB (a ++ b) = _
    rw [opsB_app a b, ← List.append_assoc]
    rfl
theorem opsB_take {l : List KO} {k : Nat} {o : KO} (h : l[k]? = some o) : opsB (l.take (k + 1)) = opsB (l.take k) ++ opB o := by
  rw [take_snoc h, opsB_app]
  show opsB (l.take k) ++ (opB o ++ []) = _
  rw [List.append_nil]
theorem numB_len3 {n : Nat} (h : n < 65536) : (numB n).length ≤ 3 := by
  have := digs_len 2 n (by omega)
  unfold numB
  simp only [List.length_cons]
  omega
theorem opB_len (o : KO) (h1 : o.k.size ≤ 32768) (h2 : o.v.size ≤ 32768) : (opB o).length ≤ 8 * cost o := by
  have n1 := numB_len3 (n := o.k.size) (by omega)
  have n2 := numB_len3 (n := o.v.size) (by omega)
  have n3 : (flagB o.has).length ≤ 2 := by
    unfold flagB numB
    have := digs_len 1 (if o.has then 1 else 0) (by split <;> decide)
    simp only [List.length_cons]
    omega
  unfold opB textB cost
  simp only [List.length_append, size_data]
  omega
theorem opsB_len : ∀ (l : List KO) (n : Nat), weighF n l ≤ 32768 → 8 * n + (opsB l).length ≤ 262144
  | [], n, h => by
    have : weighF n [] = n := rfl
    rw [this] at h
    show 8 * n + 0 ≤ _
    omega
  | o :: l, n, h => by
    have hf := weighF_fit _ _ h
    unfold weighF at h
    split at h
    · have h1 := opsB_len l _ h
      have h2 := opB_len o (hf.2 o List.mem_cons_self).1 (hf.2 o List.mem_cons_self).2
      show 8 * n + (opB o ++ opsB l).length ≤ _
      rw [List.length_append]
      omega
    · omega
theorem opsB_take_len (l : List KO) (k : Nat) : (opsB (l.take k)).length ≤ (opsB l).length := by
  have : opsB l = opsB (l.take k) ++ opsB (l.drop k) := by rw [← opsB_app, List.take_append_drop]
  rw [this, List.length_append]
  omega

set_option maxHeartbeats 1000000 in
theorem wput_spec (b : List UInt8) (l : List KO) (hw : weighF 0 l ≤ 32768) (hb : b.length ≤ 100000) (S : Store) : PRet Try.prog 38 [.sl .no 1 (encB b), .sl .no 3 (encOs l)] S (.sl .tail 1 (encB (b ++ putB l))) := by
  intro K hK
  refine pcalls_of (C := C) (fun d => d == 0 || d == 28 || d == 4) (fun _ => false) Try.func38 rfl rfl (by simp [Try.f38]) ?_
  have hfit := weighF_fit l 0 hw
  have hlen := opsB_len l 0 hw
  have hn3 := numB_len3 (n := l.length) (by omega)
  simp -implicitDefEqProofs only [go_sem, ↓reduceIte, Nat.reduceEqDiff, Nat.reduceLT, Nat.reduceLeDiff, Nat.reduceAdd, Nat.reduceMul, Nat.reduceSub, reduceCtorEq, Nat.reduceMod, Nat.reduceBEq, Int.reduceBEq, Int.reduceBNe, Int.reduceToNat, Try.f38]
  refine wnumber_spec b l.length (by omega) (by omega) _ _ ?_
  simp -implicitDefEqProofs only [go_sem, ↓reduceIte, Nat.reduceEqDiff, Nat.reduceLT, Nat.reduceLeDiff, Nat.reduceAdd, Nat.reduceMul, Nat.reduceSub, reduceCtorEq, Nat.reduceMod, Nat.reduceBEq, Int.reduceBEq, Int.reduceBNe, Int.reduceToNat]
  refine vloop (fun e S' => S' = S ∧ ∃ j : Nat, j ≤ l.length ∧ e 0 = .sl .tail 1 (encB (b ++ numB l.length ++ opsB (l.take j))) ∧ e 11 = .sl .no 3 (encOs l) ∧ e 12 = .int .i64 l.length ∧ e 13 = .int .i64 j) (fun e _ => l.length - iv (e 13)) ?_ ?_
  · refine ⟨rfl, 0, Nat.zero_le _, ?_, rfl, rfl, rfl⟩
    show PV.sl .tail 1 (encB (b ++ numB l.length)) = PV.sl .tail 1 (encB (b ++ numB l.length ++ []))
    rw [List.append_nil]
  · rintro J M Q' hJ hM hQ e S' ⟨rfl, j, hj, e0, e11, e12, e13⟩
    by_cases hlt : j < l.length
    · obtain ⟨o, ho⟩ : ∃ o, l[j]? = some o := ⟨_, List.getElem?_eq_getElem hlt⟩
      have hin : (0 : Int) ≤ j ∧ (j : Int) < l.length := by omega
      have hk1 : IntKind.i64.wrap ((j : Int) + 1) = ((j + 1 : Nat) : Int) := wrap64 (by omega) (by omega)
      have htl := opsB_take_len l j
      have hfo := hfit.2 o (List.mem_of_getElem? ho)
      have h3 : (flagB o.has).length ≤ 9 := by
        unfold flagB
        exact numB_len (by split <;> omega)
      have h4 : (textB o.k).length ≤ 32777 := by
        have := numB_len (n := o.k.size) (by omega)
        unfold textB
        rw [List.length_append, size_data]
        omega
      simp -implicitDefEqProofs only [go_sem, ↓reduceIte, Nat.reduceEqDiff, Nat.reduceLT, Nat.reduceLeDiff, Nat.reduceAdd, Nat.reduceMul, Nat.reduceSub, reduceCtorEq, Nat.reduceMod, Nat.reduceBEq, Int.reduceBEq, Int.reduceBNe, Int.reduceToNat, hin, hlt, e0, e11, e12, e13, getD_encOs ho]
      refine vwp_draw (by decide +kernel) ?_
      simp -implicitDefEqProofs only [go_sem, ↓reduceIte, Nat.reduceEqDiff, Nat.reduceLT, Nat.reduceLeDiff, Nat.reduceAdd, Nat.reduceMul, Nat.reduceSub, reduceCtorEq, Nat.reduceMod, Nat.reduceBEq, Int.reduceBEq, Int.reduceBNe, Int.reduceToNat, e0]
      refine q_call _ (by simp -implicitDefEqProofs only [go_sem, ↓reduceIte, Nat.reduceEqDiff, Nat.reduceLT, Nat.reduceLeDiff, Nat.reduceAdd, Nat.reduceMul, Nat.reduceSub, reduceCtorEq, Nat.reduceMod, Nat.reduceBEq, Int.reduceBEq, Int.reduceBNe, Int.reduceToNat, e0]; exact wtext_spec _ _ (by omega) (by simp only [List.length_append]; omega) _) (by decide) rfl ?_
      simp -implicitDefEqProofs only [go_sem, ↓reduceIte, Nat.reduceEqDiff, Nat.reduceLT, Nat.reduceLeDiff, Nat.reduceAdd, Nat.reduceMul, Nat.reduceSub, reduceCtorEq, Nat.reduceMod, Nat.reduceBEq, Int.reduceBEq, Int.reduceBNe, Int.reduceToNat]
      refine q_call _ (by simp -implicitDefEqProofs only [go_sem, ↓reduceIte, Nat.reduceEqDiff, Nat.reduceLT, Nat.reduceLeDiff, Nat.reduceAdd, Nat.reduceMul, Nat.reduceSub, reduceCtorEq, Nat.reduceMod, Nat.reduceBEq, Int.reduceBEq, Int.reduceBNe, Int.reduceToNat]; exact wflag_spec _ _ (by simp only [List.length_append]; omega) _) (by decide) rfl ?_
      simp -implicitDefEqProofs only [go_sem, ↓reduceIte, Nat.reduceEqDiff, Nat.reduceLT, Nat.reduceLeDiff, Nat.reduceAdd, Nat.reduceMul, Nat.reduceSub, reduceCtorEq, Nat.reduceMod, Nat.reduceBEq, Int.reduceBEq, Int.reduceBNe, Int.reduceToNat]
      refine q_call _ (by simp -implicitDefEqProofs only [go_sem, ↓reduceIte, Nat.reduceEqDiff, Nat.reduceLT, Nat.reduceLeDiff, Nat.reduceAdd, Nat.reduceMul, Nat.reduceSub, reduceCtorEq, Nat.reduceMod, Nat.reduceBEq, Int.reduceBEq, Int.reduceBNe, Int.reduceToNat]; exact wtext_spec _ _ (by omega) (by simp only [List.length_append]; omega) _) (by decide) rfl ?_
      simp -implicitDefEqProofs only [go_sem, ↓reduceIte, Nat.reduceEqDiff, Nat.reduceLT, Nat.reduceLeDiff, Nat.reduceAdd, Nat.reduceMul, Nat.reduceSub, reduceCtorEq, Nat.reduceMod, Nat.reduceBEq, Int.reduceBEq, Int.reduceBNe, Int.reduceToNat, e13, hk1]
      refine vnext hJ hM S' (fun _ _ h => h) ⟨rfl, j + 1, hlt, ?_, ?_, ?_, ?_⟩ ?_
      · simp -implicitDefEqProofs only [go_sem, ↓reduceIte, Nat.reduceEqDiff, Nat.reduceLT, Nat.reduceLeDiff, Nat.reduceAdd, Nat.reduceMul, Nat.reduceSub, reduceCtorEq, Nat.reduceMod, Nat.reduceBEq, Int.reduceBEq, Int.reduceBNe, Int.reduceToNat]
        rw [opsB_take ho]
        unfold opB
        simp only [List.append_assoc]
      · simp -implicitDefEqProofs only [go_sem, ↓reduceIte, Nat.reduceEqDiff, Nat.reduceLT, Nat.reduceLeDiff, Nat.reduceAdd, Nat.reduceMul, Nat.reduceSub, reduceCtorEq, Nat.reduceMod, Nat.reduceBEq, Int.reduceBEq, Int.reduceBNe, Int.reduceToNat, e11]
      · simp -implicitDefEqProofs only [go_sem, ↓reduceIte, Nat.reduceEqDiff, Nat.reduceLT, Nat.reduceLeDiff, Nat.reduceAdd, Nat.reduceMul, Nat.reduceSub, reduceCtorEq, Nat.reduceMod, Nat.reduceBEq, Int.reduceBEq, Int.reduceBNe, Int.reduceToNat, e12]
      · simp -implicitDefEqProofs only [go_sem, ↓reduceIte, Nat.reduceEqDiff, Nat.reduceLT, Nat.reduceLeDiff, Nat.reduceAdd, Nat.reduceMul, Nat.reduceSub, reduceCtorEq, Nat.reduceMod, Nat.reduceBEq, Int.reduceBEq, Int.reduceBNe, Int.reduceToNat]
      · simp -implicitDefEqProofs only [go_sem, ↓reduceIte, Nat.reduceEqDiff, Nat.reduceLT, Nat.reduceLeDiff, Nat.reduceAdd, Nat.reduceMul, Nat.reduceSub, reduceCtorEq, Nat.reduceMod, Nat.reduceBEq, Int.reduceBEq, Int.reduceBNe, Int.reduceToNat, e13]
        omega
    · have hcc : ¬ (j : Int) < l.length := by omega
      rw [List.take_of_length_le (by omega)] at e0
      simp -implicitDefEqProofs only [go_sem, ↓reduceIte, Nat.reduceEqDiff, Nat.reduceLT, Nat.reduceLeDiff, Nat.reduceAdd, Nat.reduceMul, Nat.reduceSub, reduceCtorEq, Nat.reduceMod, Nat.reduceBEq, Int.reduceBEq, Int.reduceBNe, Int.reduceToNat, hcc, e12, e13]
      refine hQ _ _ _ ?_
      simp -implicitDefEqProofs only [go_sem, ↓reduceIte, Nat.reduceEqDiff, Nat.reduceLT, Nat.reduceLeDiff, Nat.reduceAdd, Nat.reduceMul, Nat.reduceSub, reduceCtorEq, Nat.reduceMod, Nat.reduceBEq, Int.reduceBEq, Int.reduceBNe, Int.reduceToNat, e0]
      unfold putB at hK
      rw [← List.append_assoc] at hK
      exact ⟨S', fun _ _ h => h, hK⟩
set_option maxHeartbeats 1000000 in
theorem rput_spec (b : List UInt8) (l : List KO) (hw : weighF 0 l ≤ 32768) (hb : b.length ≤ 100000) (S : Store) : PRet Try.prog 40 [.sl .no 1 (encB b), .sl .no 3 (encOs l)] S (.sl .tail 1 (encB (b ++ putB l))) := by
  intro K hK
  refine pcalls_of (C := C) (fun d => d == 0 || d == 28 || d == 4) (fun _ => false) Try.func40 rfl rfl (by simp [Try.f40]) ?_
  have hfit := weighF_fit l 0 hw
  have hlen := opsB_len l 0 hw
  have hn3 := numB_len3 (n := l.length) (by omega)
  simp -implicitDefEqProofs only [go_sem, ↓reduceIte, Nat.reduceEqDiff, Nat.reduceLT, Nat.reduceLeDiff, Nat.reduceAdd, Nat.reduceMul, Nat.reduceSub, reduceCtorEq, Nat.reduceMod, Nat.reduceBEq, Int.reduceBEq, Int.reduceBNe, Int.reduceToNat, Try.f40]
  refine rnumber_spec b l.length (by omega) (by omega) _ _ ?_
  simp -implicitDefEqProofs only [go_sem, ↓reduceIte, Nat.reduceEqDiff, Nat.reduceLT, Nat.reduceLeDiff, Nat.reduceAdd, Nat.reduceMul, Nat.reduceSub, reduceCtorEq, Nat.reduceMod, Nat.reduceBEq, Int.reduceBEq, Int.reduceBNe, Int.reduceToNat]
  refine vloop (fun e S' => S' = S ∧ ∃ j : Nat, j ≤ l.length ∧ e 0 = .sl .tail 1 (encB (b ++ numB l.length ++ opsB (l.take j))) ∧ e 11 = .sl .no 3 (encOs l) ∧ e 12 = .int .i64 l.length ∧ e 13 = .int .i64 j) (fun e _ => l.length - iv (e 13)) ?_ ?_
  · refine ⟨rfl, 0, Nat.zero_le _, ?_, rfl, rfl, rfl⟩
    show PV.sl .tail 1 (encB (b ++ numB l.length)) = PV.sl .tail 1 (encB (b ++ numB l.length ++ []))
    rw [List.append_nil]
  · rintro J M Q' hJ hM hQ e S' ⟨rfl, j, hj, e0, e11, e12, e13⟩
    by_cases hlt : j < l.length
    · obtain ⟨o, ho⟩ : ∃ o, l[j]? = some o := ⟨_, List.getElem?_eq_getElem hlt⟩
      have hin : (0 : Int) ≤ j ∧ (j : Int) < l.length := by omega
      have hk1 : IntKind.i64.wrap ((j : Int) + 1) = ((j + 1 : Nat) : Int) := wrap64 (by omega) (by omega)
      have htl := opsB_take_len l j
      have hfo := hfit.2 o (List.mem_of_getElem? ho)
      have h3 : (flagB o.has).length ≤ 9 := by
        unfold flagB
        exact numB_len (by split <;> omega)
      have h4 : (textB o.k).length ≤ 32777 := by
        have := numB_len (n := o.k.size) (by omega)
        unfold textB
        rw [List.length_append, size_data]
        omega
      simp -implicitDefEqProofs only [go_sem, ↓reduceIte, Nat.reduceEqDiff, Nat.reduceLT, Nat.reduceLeDiff, Nat.reduceAdd, Nat.reduceMul, Nat.reduceSub, reduceCtorEq, Nat.reduceMod, Nat.reduceBEq, Int.reduceBEq, Int.reduceBNe, Int.reduceToNat, hin, hlt, e0, e11, e12, e13, getD_encOs ho]
      refine vwp_draw (by decide +kernel) ?_
      simp -implicitDefEqProofs only [go_sem, ↓reduceIte, Nat.reduceEqDiff, Nat.reduceLT, Nat.reduceLeDiff, Nat.reduceAdd, Nat.reduceMul, Nat.reduceSub, reduceCtorEq, Nat.reduceMod, Nat.reduceBEq, Int.reduceBEq, Int.reduceBNe, Int.reduceToNat, e0]
      refine q_call _ (by simp -implicitDefEqProofs only [go_sem, ↓reduceIte, Nat.reduceEqDiff, Nat.reduceLT, Nat.reduceLeDiff, Nat.reduceAdd, Nat.reduceMul, Nat.reduceSub, reduceCtorEq, Nat.reduceMod, Nat.reduceBEq, Int.reduceBEq, Int.reduceBNe, Int.reduceToNat, e0]; exact rtext_spec _ _ (by omega) (by simp only [List.length_append]; omega) _) (by decide) rfl ?_
      simp -implicitDefEqProofs only [go_sem, ↓reduceIte, Nat.reduceEqDiff, Nat.reduceLT, Nat.reduceLeDiff, Nat.reduceAdd, Nat.reduceMul, Nat.reduceSub, reduceCtorEq, Nat.reduceMod, Nat.reduceBEq, Int.reduceBEq, Int.reduceBNe, Int.reduceToNat]
      refine q_call _ (by simp -implicitDefEqProofs only [go_sem, ↓reduceIte, Nat.reduceEqDiff, Nat.reduceLT, Nat.reduceLeDiff, Nat.reduceAdd, Nat.reduceMul, Nat.reduceSub, reduceCtorEq, Nat.reduceMod, Nat.reduceBEq, Int.reduceBEq, Int.reduceBNe, Int.reduceToNat]; exact rflag_spec _ _ (by simp only [List.length_append]; omega) _) (by decide) rfl ?_
      simp -implicitDefEqProofs only [go_sem, ↓reduceIte, Nat.reduceEqDiff, Nat.reduceLT, Nat.reduceLeDiff, Nat.reduceAdd, Nat.reduceMul, Nat.reduceSub, reduceCtorEq, Nat.reduceMod, Nat.reduceBEq, Int.reduceBEq, Int.reduceBNe, Int.reduceToNat]
      refine q_call _ (by simp -implicitDefEqProofs only [go_sem, ↓reduceIte, Nat.reduceEqDiff, Nat.reduceLT, Nat.reduceLeDiff, Nat.reduceAdd, Nat.reduceMul, Nat.reduceSub, reduceCtorEq, Nat.reduceMod, Nat.reduceBEq, Int.reduceBEq, Int.reduceBNe, Int.reduceToNat]; exact rtext_spec _ _ (by omega) (by simp only [List.length_append]; omega) _) (by decide) rfl ?_
      simp -implicitDefEqProofs only [go_sem, ↓reduceIte, Nat.reduceEqDiff, Nat.reduceLT, Nat.reduceLeDiff, Nat.reduceAdd, Nat.reduceMul, Nat.reduceSub, reduceCtorEq, Nat.reduceMod, Nat.reduceBEq, Int.reduceBEq, Int.reduceBNe, Int.reduceToNat, e13, hk1]
      refine vnext hJ hM S' (fun _ _ h => h) ⟨rfl, j + 1, hlt, ?_, ?_, ?_, ?_⟩ ?_
      · simp -implicitDefEqProofs only [go_sem, ↓reduceIte, Nat.reduceEqDiff, Nat.reduceLT, Nat.reduceLeDiff, Nat.reduceAdd, Nat.reduceMul, Nat.reduceSub, reduceCtorEq, Nat.reduceMod, Nat.reduceBEq, Int.reduceBEq, Int.reduceBNe, Int.reduceToNat]
        rw [opsB_take ho]
        unfold opB
        simp only [List.append_assoc]
      · simp -implicitDefEqProofs only [go_sem, ↓reduceIte, Nat.reduceEqDiff, Nat.reduceLT, Nat.reduceLeDiff, Nat.reduceAdd, Nat.reduceMul, Nat.reduceSub, reduceCtorEq, Nat.reduceMod, Nat.reduceBEq, Int.reduceBEq, Int.reduceBNe, Int.reduceToNat, e11]
      · simp -implicitDefEqProofs only [go_sem, ↓reduceIte, Nat.reduceEqDiff, Nat.reduceLT, Nat.reduceLeDiff, Nat.reduceAdd, Nat.reduceMul, Nat.reduceSub, reduceCtorEq, Nat.reduceMod, Nat.reduceBEq, Int.reduceBEq, Int.reduceBNe, Int.reduceToNat, e12]
      · simp -implicitDefEqProofs only [go_sem, ↓reduceIte, Nat.reduceEqDiff, Nat.reduceLT, Nat.reduceLeDiff, Nat.reduceAdd, Nat.reduceMul, Nat.reduceSub, reduceCtorEq, Nat.reduceMod, Nat.reduceBEq, Int.reduceBEq, Int.reduceBNe, Int.reduceToNat]
      · simp -implicitDefEqProofs only [go_sem, ↓reduceIte, Nat.reduceEqDiff, Nat.reduceLT, Nat.reduceLeDiff, Nat.reduceAdd, Nat.reduceMul, Nat.reduceSub, reduceCtorEq, Nat.reduceMod, Nat.reduceBEq, Int.reduceBEq, Int.reduceBNe, Int.reduceToNat, e13]
        omega
    · have hcc : ¬ (j : Int) < l.length := by omega
      rw [List.take_of_length_le (by omega)] at e0
      simp -implicitDefEqProofs only [go_sem, ↓reduceIte, Nat.reduceEqDiff, Nat.reduceLT, Nat.reduceLeDiff, Nat.reduceAdd, Nat.reduceMul, Nat.reduceSub, reduceCtorEq, Nat.reduceMod, Nat.reduceBEq, Int.reduceBEq, Int.reduceBNe, Int.reduceToNat, hcc, e12, e13]
      refine hQ _ _ _ ?_
      simp -implicitDefEqProofs only [go_sem, ↓reduceIte, Nat.reduceEqDiff, Nat.reduceLT, Nat.reduceLeDiff, Nat.reduceAdd, Nat.reduceMul, Nat.reduceSub, reduceCtorEq, Nat.reduceMod, Nat.reduceBEq, Int.reduceBEq, Int.reduceBNe, Int.reduceToNat, e0]
      unfold putB at hK
      rw [← List.append_assoc] at hK
      exact ⟨S', fun _ _ h => h, hK⟩

/-! ### read -/
theorem rdNum_pos {l : List UInt8} (h : (rdNum l).2.2 = 0) : 1 ≤ (rdNum l).2.1 := by
  unfold rdNum at h ⊢
  by_cases h0 : l.length = 0
  · rw [if_pos h0] at h; simp at h
  rw [if_neg h0] at h ⊢
  by_cases h1 : 8 < (l.getD 0 0).toNat
  · rw [if_pos h1] at h; simp at h
  rw [if_neg h1] at h ⊢
  by_cases h2 : l.length < (l.getD 0 0).toNat + 1
  · rw [if_pos h2] at h; simp at h
  rw [if_neg h2] at h ⊢
  by_cases h3 : 0 < (l.getD 0 0).toNat ∧ (l.getD 1 0).toNat = 0
  · rw [if_pos h3] at h; simp at h
  rw [if_neg h3] at h ⊢
  by_cases h4 : (l.getD 0 0).toNat = 8 ∧ 127 < (l.getD 1 0).toNat
  · rw [if_pos h4] at h; simp at h
  rw [if_neg h4]
  exact Nat.le_add_left _ _
/-- What a reading leaves: it is in order; where there is no error there was none, and it went on. -/
def Went (s t : Rd) : Prop := t.Ok ∧ (t.e = 0 → s.e = 0 ∧ s.p + 1 ≤ t.p)
theorem rText_went {s : Rd} (ok : s.Ok) (m : Nat) : Went s (rText m s).2 := by
  have h1 := ok.1
  have h2 := ok.2
  unfold rText
  by_cases he : s.e = 0
  · rw [if_pos he]
    split
    · rename_i ht
      have hz : (rdNum (s.b.drop s.p)).2.2 = 0 := by
        unfold textE at ht
        by_cases hz : (rdNum (s.b.drop s.p)).2.2 = 0
        · exact hz
        · rw [if_neg hz] at ht; exact absurd ht hz
      have hp := rdNum_pos hz
      have hb := rdNum_lt (s.b.drop s.p)
      rw [List.length_drop] at hb
      unfold textE at ht
      rw [if_pos hz] at ht
      split at ht
      · cases ht
      · split at ht
        · cases ht
        · refine ⟨⟨by dsimp only; omega, h2⟩, fun _ => ⟨he, by dsimp only; omega⟩⟩
    · rename_i ht
      exact ⟨⟨h1, h2⟩, fun h => absurd h ht⟩
  · rw [if_neg he]
    exact ⟨ok, fun h => absurd h he⟩
theorem rFlag_went {s : Rd} (ok : s.Ok) : Went s (rFlag s).2 := by
  have h1 := ok.1
  have h2 := ok.2
  unfold rFlag
  by_cases he : s.e = 0
  · rw [if_pos he]
    split
    · rename_i ht
      have hz : (rdNum (s.b.drop s.p)).2.2 = 0 := by
        unfold flagE at ht
        split at ht
        · cases ht
        · exact ht
      have hp := rdNum_pos hz
      have hb := rdNum_lt (s.b.drop s.p)
      rw [List.length_drop] at hb
      refine ⟨⟨by dsimp only; omega, h2⟩, fun _ => ⟨he, by dsimp only; omega⟩⟩
    · rename_i ht
      exact ⟨⟨h1, h2⟩, fun h => absurd h ht⟩
  · rw [if_neg he]
    exact ⟨ok, fun h => absurd h he⟩
theorem rWithin_ok {s : Rd} (ok : s.Ok) (lo hi : Int) : (rWithin lo hi s).2.Ok := by
  have h1 := ok.1
  have h2 := ok.2
  have hb := rdNum_lt (s.b.drop s.p)
  rw [List.length_drop] at hb
  unfold rWithin
  by_cases he : s.e = 0
  · rw [if_pos he]
    split
    · exact ⟨by dsimp only; omega, h2⟩
    · exact ⟨h1, h2⟩
  · rw [if_neg he]
    exact ok
theorem rWithin_lt (lo hi : Int) (s : Rd) : (rWithin lo hi s).1 < 9223372036854775808 := by
  have hb := rdNum_lt (s.b.drop s.p)
  unfold rWithin
  repeat' split
  all_goals first | exact hb.1 | (dsimp only; omega)
def getOne (s : Rd) : KO × Rd := (⟨(rText 96 s).1, (rFlag (rText 96 s).2).1, (rText 192 (rFlag (rText 96 s).2).2).1⟩, (rText 192 (rFlag (rText 96 s).2).2).2)
def getF : Nat → Rd → List KO × Rd
  | 0, s => ([], s)
  | n + 1, s => if s.e = 0 then ((getOne s).1 :: (getF n (getOne s).2).1, (getF n (getOne s).2).2) else ([], s)
def getOps (most : Int) (s : Rd) : List KO × Rd := getF (rWithin 0 most s).1 (rWithin 0 most s).2
theorem getOne_went {s : Rd} (ok : s.Ok) : (getOne s).2.Ok ∧ ((getOne s).2.e = 0 → s.e = 0 ∧ s.p + 3 ≤ (getOne s).2.p) := by
  have w1 := rText_went ok 96
  have w2 := rFlag_went w1.1
  have w3 := rText_went w2.1 192
  refine ⟨w3.1, fun h => ?_⟩
  have a3 := w3.2 h
  have a2 := w2.2 a3.1
  have a1 := w1.2 a2.1
  refine ⟨a1.1, ?_⟩
  have : (getOne s).2.p = (rText 192 (rFlag (rText 96 s).2).2).2.p := rfl
  omega
theorem small40b {k : Nat} (h : k ≤ 1000000) : k * 40 ≤ 140737488355328 ∧ k ≤ 140737488355328 := by omega

theorem Err_spec {S : Store} {id : Nat} {s : Rd} (hs : S id = some (wcells s)) : PRet Try.prog 44 [.ref id 0] S (.int .i64 s.e) := by
  intro K hK
  refine pcalls_of (C := C) (fun _ => false) (fun _ => false) Try.func44 rfl rfl (by simp [Try.f44]) ?_
  have hs' := hs
  unfold wcells at hs'
  simp -implicitDefEqProofs only [go_sem, ↓reduceIte, Nat.reduceEqDiff, Nat.reduceLT, Nat.reduceLeDiff, Nat.reduceAdd, Nat.reduceMul, Nat.reduceSub, reduceCtorEq, Nat.reduceMod, Nat.reduceBEq, Int.reduceBEq, Int.reduceBNe, Int.reduceToNat, Try.f44]
  refine dead_spec hs _ ?_
  simp -implicitDefEqProofs only [go_sem, ↓reduceIte, Nat.reduceEqDiff, Nat.reduceLT, Nat.reduceLeDiff, Nat.reduceAdd, Nat.reduceMul, Nat.reduceSub, reduceCtorEq, Nat.reduceMod, Nat.reduceBEq, Int.reduceBEq, Int.reduceBNe, Int.reduceToNat, hs']
  exact ⟨_, fun _ _ h => h, hK⟩
set_option maxHeartbeats 2000000 in
theorem wget_calls {S : Store} {id : Nat} {s : Rd} (hs : S id = some (wcells s)) (ok : s.Ok) (most : Int) (K : PV → Store → Prop) (hK : ∀ fl, (getOps most s).1.length ≤ 900001 → K (.sl fl 3 (encOs (getOps most s).1)) (S.set id (some (wcells (getOps most s).2)))) : PCalls Try.prog 43 [.ref id 0, .int .i64 most] S K := by
  refine pcalls_of (C := C) (fun d => d == 21 || d == 5 || d == 31 || d == 4) (fun _ => false) Try.func43 rfl rfl (by simp [Try.f43]) ?_
  simp -implicitDefEqProofs only [go_sem, ↓reduceIte, Nat.reduceEqDiff, Nat.reduceLT, Nat.reduceLeDiff, Nat.reduceAdd, Nat.reduceMul, Nat.reduceSub, reduceCtorEq, Nat.reduceMod, Nat.reduceBEq, Int.reduceBEq, Int.reduceBNe, Int.reduceToNat, Try.f43]
  refine wWithin_calls hs ok 0 most _ ?_
  unfold getOps at hK
  have ok1 := rWithin_ok ok 0 most
  have hlt := rWithin_lt 0 most s
  generalize rWithin 0 most s = r at hK ok1 hlt ⊢
  obtain ⟨n, s1⟩ := r
  dsimp only at hK ok1 hlt
  simp -implicitDefEqProofs only [go_sem, ↓reduceIte, Nat.reduceEqDiff, Nat.reduceLT, Nat.reduceLeDiff, Nat.reduceAdd, Nat.reduceMul, Nat.reduceSub, reduceCtorEq, Nat.reduceMod, Nat.reduceBEq, Int.reduceBEq, Int.reduceBNe, Int.reduceToNat]
  refine vloop (fun e S' => ∃ (out : List KO) (s2 : Rd), S' = S.set id (some (wcells s2)) ∧ s2.Ok ∧ out.length ≤ n ∧ getF n s1 = (out ++ (getF (n - out.length) s2).1, (getF (n - out.length) s2).2) ∧ (s2.e = 0 → 3 * out.length ≤ s2.p) ∧ out.length ≤ 900001 ∧ e 0 = .ref id 0 ∧ e 5 = .sl .tail 3 (encOs out) ∧ e 6 = .int .i64 n ∧ e 7 = .int .i64 out.length) (fun e _ => n - iv (e 7)) ?_ ?_
  · exact ⟨[], s1, rfl, ok1, Nat.zero_le _, rfl, fun _ => Nat.zero_le _, Nat.zero_le _, rfl, rfl, rfl, rfl⟩
  · rintro J M Q' hJ hM hQ e S' ⟨out, s2, rfl, ok2, hle, hg, hp, hol, e0, e5, e6, e7⟩
    have hat : (S.set id (some (wcells s2))) id = some (wcells s2) := set_at _ _ _
    by_cases hlt2 : out.length < n
    · have d1 : (out.length : Int) < (n : Int) := by omega
      by_cases he : s2.e = 0
      · have hgo := getOne_went ok2
        have w1 := rText_went ok2 96
        have w2 := rFlag_went w1.1
        have hk1 : IntKind.i64.wrap ((out.length : Int) + 1) = ((out.length + 1 : Nat) : Int) := wrap64 (by omega) (by omega)
        have hp' := hp he
        have hb2 := ok2.1
        have hb3 := ok2.2
        have hap := small40b (k := out.length + 1) (by omega)
        simp -implicitDefEqProofs only [go_sem, ↓reduceIte, Nat.reduceEqDiff, Nat.reduceLT, Nat.reduceLeDiff, Nat.reduceAdd, Nat.reduceMul, Nat.reduceSub, reduceCtorEq, Nat.reduceMod, Nat.reduceBEq, Int.reduceBEq, Int.reduceBNe, Int.reduceToNat, e0, e5, e6, e7, d1]
        refine Err_spec hat _ ?_
        simp -implicitDefEqProofs only [go_sem, ↓reduceIte, Nat.reduceEqDiff, Nat.reduceLT, Nat.reduceLeDiff, Nat.reduceAdd, Nat.reduceMul, Nat.reduceSub, reduceCtorEq, Nat.reduceMod, Nat.reduceBEq, Int.reduceBEq, Int.reduceBNe, Int.reduceToNat, e0, (zz he).2]
        try simp -implicitDefEqProofs only [go_sem, ↓reduceIte, Nat.reduceEqDiff, Nat.reduceLT, Nat.reduceLeDiff, Nat.reduceAdd, Nat.reduceMul, Nat.reduceSub, reduceCtorEq, Nat.reduceMod, Nat.reduceBEq, Int.reduceBEq, Int.reduceBNe, Int.reduceToNat, e0]
        refine wText_calls (s := s2) (set_at _ _ _) ok2 96 _ ?_
        simp -implicitDefEqProofs only [go_sem, ↓reduceIte, Nat.reduceEqDiff, Nat.reduceLT, Nat.reduceLeDiff, Nat.reduceAdd, Nat.reduceMul, Nat.reduceSub, reduceCtorEq, Nat.reduceMod, Nat.reduceBEq, Int.reduceBEq, Int.reduceBNe, Int.reduceToNat, e0]
        refine wFlag_calls (set_at _ _ _) w1.1 _ ?_
        simp -implicitDefEqProofs only [go_sem, ↓reduceIte, Nat.reduceEqDiff, Nat.reduceLT, Nat.reduceLeDiff, Nat.reduceAdd, Nat.reduceMul, Nat.reduceSub, reduceCtorEq, Nat.reduceMod, Nat.reduceBEq, Int.reduceBEq, Int.reduceBNe, Int.reduceToNat, e0]
        refine wText_calls (set_at _ _ _) w2.1 192 _ ?_
        simp -implicitDefEqProofs only [go_sem, ↓reduceIte, Nat.reduceEqDiff, Nat.reduceLT, Nat.reduceLeDiff, Nat.reduceAdd, Nat.reduceMul, Nat.reduceSub, reduceCtorEq, Nat.reduceMod, Nat.reduceBEq, Int.reduceBEq, Int.reduceBNe, Int.reduceToNat, e0, e5, e6, e7, hap, hk1]
        refine vnext hJ hM _ (fun _ _ h => h) ⟨out ++ [(getOne s2).1], (getOne s2).2, ?_, hgo.1, ?_, ?_, ?_, ?_, ?_, ?_, ?_, ?_⟩ ?_
        · rfl
        · simp only [List.length_append, List.length_cons, List.length_nil]; omega
        · rw [hg, show n - out.length = (n - (out ++ [(getOne s2).1]).length) + 1 by simp only [List.length_append, List.length_cons, List.length_nil]; omega, getF, if_pos he]
          simp
        · intro h3
          have := hgo.2 h3
          simp only [List.length_append, List.length_cons, List.length_nil]
          omega
        · simp only [List.length_append, List.length_cons, List.length_nil]; omega
        · simp -implicitDefEqProofs only [go_sem, ↓reduceIte, Nat.reduceEqDiff, Nat.reduceLT, Nat.reduceLeDiff, Nat.reduceAdd, Nat.reduceMul, Nat.reduceSub, reduceCtorEq, Nat.reduceMod, Nat.reduceBEq, Int.reduceBEq, Int.reduceBNe, Int.reduceToNat, e0]
        · simp -implicitDefEqProofs only [go_sem, ↓reduceIte, Nat.reduceEqDiff, Nat.reduceLT, Nat.reduceLeDiff, Nat.reduceAdd, Nat.reduceMul, Nat.reduceSub, reduceCtorEq, Nat.reduceMod, Nat.reduceBEq, Int.reduceBEq, Int.reduceBNe, Int.reduceToNat]
          rw [encOs_one]
          rfl
        · simp -implicitDefEqProofs only [go_sem, ↓reduceIte, Nat.reduceEqDiff, Nat.reduceLT, Nat.reduceLeDiff, Nat.reduceAdd, Nat.reduceMul, Nat.reduceSub, reduceCtorEq, Nat.reduceMod, Nat.reduceBEq, Int.reduceBEq, Int.reduceBNe, Int.reduceToNat, e6]
        · simp -implicitDefEqProofs only [go_sem, ↓reduceIte, Nat.reduceEqDiff, Nat.reduceLT, Nat.reduceLeDiff, Nat.reduceAdd, Nat.reduceMul, Nat.reduceSub, reduceCtorEq, Nat.reduceMod, Nat.reduceBEq, Int.reduceBEq, Int.reduceBNe, Int.reduceToNat]
          simp only [List.length_append, List.length_cons, List.length_nil]
        · simp -implicitDefEqProofs only [go_sem, ↓reduceIte, Nat.reduceEqDiff, Nat.reduceLT, Nat.reduceLeDiff, Nat.reduceAdd, Nat.reduceMul, Nat.reduceSub, reduceCtorEq, Nat.reduceMod, Nat.reduceBEq, Int.reduceBEq, Int.reduceBNe, Int.reduceToNat, e7]
          omega
      · simp -implicitDefEqProofs only [go_sem, ↓reduceIte, Nat.reduceEqDiff, Nat.reduceLT, Nat.reduceLeDiff, Nat.reduceAdd, Nat.reduceMul, Nat.reduceSub, reduceCtorEq, Nat.reduceMod, Nat.reduceBEq, Int.reduceBEq, Int.reduceBNe, Int.reduceToNat, e0, e5, e6, e7, d1]
        refine Err_spec hat _ ?_
        simp -implicitDefEqProofs only [go_sem, ↓reduceIte, Nat.reduceEqDiff, Nat.reduceLT, Nat.reduceLeDiff, Nat.reduceAdd, Nat.reduceMul, Nat.reduceSub, reduceCtorEq, Nat.reduceMod, Nat.reduceBEq, Int.reduceBEq, Int.reduceBNe, Int.reduceToNat, e0, (nz he).2]
        refine hQ _ _ _ ?_
        have hg0 : getF (n - out.length) s2 = ([], s2) := by
          rw [show n - out.length = (n - out.length - 1) + 1 by omega, getF, if_neg he]
        rw [hg0, List.append_nil] at hg
        rw [hg] at hK
        simp -implicitDefEqProofs only [go_sem, ↓reduceIte, Nat.reduceEqDiff, Nat.reduceLT, Nat.reduceLeDiff, Nat.reduceAdd, Nat.reduceMul, Nat.reduceSub, reduceCtorEq, Nat.reduceMod, Nat.reduceBEq, Int.reduceBEq, Int.reduceBNe, Int.reduceToNat, e5]
        exact ⟨_, fun _ _ h => h, hK _ hol⟩
    · have d1 : ¬ (out.length : Int) < (n : Int) := by omega
      have hg0 : n - out.length = 0 := by omega
      rw [hg0] at hg
      have hg1 : getF n s1 = (out, s2) := by rw [hg]; simp [getF]
      rw [hg1] at hK
      simp -implicitDefEqProofs only [go_sem, ↓reduceIte, Nat.reduceEqDiff, Nat.reduceLT, Nat.reduceLeDiff, Nat.reduceAdd, Nat.reduceMul, Nat.reduceSub, reduceCtorEq, Nat.reduceMod, Nat.reduceBEq, Int.reduceBEq, Int.reduceBNe, Int.reduceToNat, e6, e7, d1]
      refine hQ _ _ _ ?_
      simp -implicitDefEqProofs only [go_sem, ↓reduceIte, Nat.reduceEqDiff, Nat.reduceLT, Nat.reduceLeDiff, Nat.reduceAdd, Nat.reduceMul, Nat.reduceSub, reduceCtorEq, Nat.reduceMod, Nat.reduceBEq, Int.reduceBEq, Int.reduceBNe, Int.reduceToNat, e5]
      exact ⟨_, fun _ _ h => h, hK _ hol⟩
set_option maxHeartbeats 2000000 in
theorem rget_calls {S : Store} {id : Nat} {s : Rd} (hs : S id = some (rcells s)) (ok : s.Ok) (most : Int) (K : PV → Store → Prop) (hK : ∀ fl, (getOps most s).1.length ≤ 900001 → K (.sl fl 3 (encOs (getOps most s).1)) (S.set id (some (rcells (getOps most s).2)))) : PCalls Try.prog 46 [.ref id 0, .int .i64 most] S K := by
  refine pcalls_of (C := C) (fun d => d == 23 || d == 5 || d == 33 || d == 4) (fun _ => false) Try.func46 rfl rfl (by simp [Try.f46]) ?_
  simp -implicitDefEqProofs only [go_sem, ↓reduceIte, Nat.reduceEqDiff, Nat.reduceLT, Nat.reduceLeDiff, Nat.reduceAdd, Nat.reduceMul, Nat.reduceSub, reduceCtorEq, Nat.reduceMod, Nat.reduceBEq, Int.reduceBEq, Int.reduceBNe, Int.reduceToNat, Try.f46]
  refine rWithin_calls hs ok 0 most _ ?_
  unfold getOps at hK
  have ok1 := rWithin_ok ok 0 most
  have hlt := rWithin_lt 0 most s
  generalize rWithin 0 most s = r at hK ok1 hlt ⊢
  obtain ⟨n, s1⟩ := r
  dsimp only at hK ok1 hlt
  simp -implicitDefEqProofs only [go_sem, ↓reduceIte, Nat.reduceEqDiff, Nat.reduceLT, Nat.reduceLeDiff, Nat.reduceAdd, Nat.reduceMul, Nat.reduceSub, reduceCtorEq, Nat.reduceMod, Nat.reduceBEq, Int.reduceBEq, Int.reduceBNe, Int.reduceToNat]
  refine vloop (fun e S' => ∃ (out : List KO) (s2 : Rd), S' = S.set id (some (rcells s2)) ∧ s2.Ok ∧ out.length ≤ n ∧ getF n s1 = (out ++ (getF (n - out.length) s2).1, (getF (n - out.length) s2).2) ∧ (s2.e = 0 → 3 * out.length ≤ s2.p) ∧ out.length ≤ 900001 ∧ e 0 = .ref id 0 ∧ e 5 = .sl .tail 3 (encOs out) ∧ e 6 = .int .i64 n ∧ e 7 = .int .i64 out.length) (fun e _ => n - iv (e 7)) ?_ ?_
  · exact ⟨[], s1, rfl, ok1, Nat.zero_le _, rfl, fun _ => Nat.zero_le _, Nat.zero_le _, rfl, rfl, rfl, rfl⟩
  · rintro J M Q' hJ hM hQ e S' ⟨out, s2, rfl, ok2, hle, hg, hp, hol, e0, e5, e6, e7⟩
    have hat : (S.set id (some (rcells s2))) id = some (rcells s2) := set_at _ _ _
    by_cases hlt2 : out.length < n
    · have d1 : (out.length : Int) < (n : Int) := by omega
      by_cases he : s2.e = 0
      · have hgo := getOne_went ok2
        have w1 := rText_went ok2 96
        have w2 := rFlag_went w1.1
        have hk1 : IntKind.i64.wrap ((out.length : Int) + 1) = ((out.length + 1 : Nat) : Int) := wrap64 (by omega) (by omega)
        have hp' := hp he
        have hb2 := ok2.1
        have hb3 := ok2.2
        have hap := small40b (k := out.length + 1) (by omega)
        simp -implicitDefEqProofs only [go_sem, ↓reduceIte, Nat.reduceEqDiff, Nat.reduceLT, Nat.reduceLeDiff, Nat.reduceAdd, Nat.reduceMul, Nat.reduceSub, reduceCtorEq, Nat.reduceMod, Nat.reduceBEq, Int.reduceBEq, Int.reduceBNe, Int.reduceToNat, e0, e5, e6, e7, d1]
        simp -implicitDefEqProofs only [go_sem, ↓reduceIte, Nat.reduceEqDiff, Nat.reduceLT, Nat.reduceLeDiff, Nat.reduceAdd, Nat.reduceMul, Nat.reduceSub, reduceCtorEq, Nat.reduceMod, Nat.reduceBEq, Int.reduceBEq, Int.reduceBNe, Int.reduceToNat, hat, rcells, (zz he).2]
        try simp -implicitDefEqProofs only [go_sem, ↓reduceIte, Nat.reduceEqDiff, Nat.reduceLT, Nat.reduceLeDiff, Nat.reduceAdd, Nat.reduceMul, Nat.reduceSub, reduceCtorEq, Nat.reduceMod, Nat.reduceBEq, Int.reduceBEq, Int.reduceBNe, Int.reduceToNat, e0]
        refine rText_calls (s := s2) (set_at _ _ _) ok2 96 _ ?_
        simp -implicitDefEqProofs only [go_sem, ↓reduceIte, Nat.reduceEqDiff, Nat.reduceLT, Nat.reduceLeDiff, Nat.reduceAdd, Nat.reduceMul, Nat.reduceSub, reduceCtorEq, Nat.reduceMod, Nat.reduceBEq, Int.reduceBEq, Int.reduceBNe, Int.reduceToNat, e0]
        refine rFlag_calls (set_at _ _ _) w1.1 _ ?_
        simp -implicitDefEqProofs only [go_sem, ↓reduceIte, Nat.reduceEqDiff, Nat.reduceLT, Nat.reduceLeDiff, Nat.reduceAdd, Nat.reduceMul, Nat.reduceSub, reduceCtorEq, Nat.reduceMod, Nat.reduceBEq, Int.reduceBEq, Int.reduceBNe, Int.reduceToNat, e0]
        refine rText_calls (set_at _ _ _) w2.1 192 _ ?_
        simp -implicitDefEqProofs only [go_sem, ↓reduceIte, Nat.reduceEqDiff, Nat.reduceLT, Nat.reduceLeDiff, Nat.reduceAdd, Nat.reduceMul, Nat.reduceSub, reduceCtorEq, Nat.reduceMod, Nat.reduceBEq, Int.reduceBEq, Int.reduceBNe, Int.reduceToNat, e0, e5, e6, e7, hap, hk1]
        refine vnext hJ hM _ (fun _ _ h => h) ⟨out ++ [(getOne s2).1], (getOne s2).2, ?_, hgo.1, ?_, ?_, ?_, ?_, ?_, ?_, ?_, ?_⟩ ?_
        · rfl
        · simp only [List.length_append, List.length_cons, List.length_nil]; omega
        · rw [hg, show n - out.length = (n - (out ++ [(getOne s2).1]).length) + 1 by simp only [List.length_append, List.length_cons, List.length_nil]; omega, getF, if_pos he]
          simp
        · intro h3
          have := hgo.2 h3
          simp only [List.length_append, List.length_cons, List.length_nil]
          omega
        · simp only [List.length_append, List.length_cons, List.length_nil]; omega
        · simp -implicitDefEqProofs only [go_sem, ↓reduceIte, Nat.reduceEqDiff, Nat.reduceLT, Nat.reduceLeDiff, Nat.reduceAdd, Nat.reduceMul, Nat.reduceSub, reduceCtorEq, Nat.reduceMod, Nat.reduceBEq, Int.reduceBEq, Int.reduceBNe, Int.reduceToNat, e0]
        · simp -implicitDefEqProofs only [go_sem, ↓reduceIte, Nat.reduceEqDiff, Nat.reduceLT, Nat.reduceLeDiff, Nat.reduceAdd, Nat.reduceMul, Nat.reduceSub, reduceCtorEq, Nat.reduceMod, Nat.reduceBEq, Int.reduceBEq, Int.reduceBNe, Int.reduceToNat]
          rw [encOs_one]
          rfl
        · simp -implicitDefEqProofs only [go_sem, ↓reduceIte, Nat.reduceEqDiff, Nat.reduceLT, Nat.reduceLeDiff, Nat.reduceAdd, Nat.reduceMul, Nat.reduceSub, reduceCtorEq, Nat.reduceMod, Nat.reduceBEq, Int.reduceBEq, Int.reduceBNe, Int.reduceToNat, e6]
        · simp -implicitDefEqProofs only [go_sem, ↓reduceIte, Nat.reduceEqDiff, Nat.reduceLT, Nat.reduceLeDiff, Nat.reduceAdd, Nat.reduceMul, Nat.reduceSub, reduceCtorEq, Nat.reduceMod, Nat.reduceBEq, Int.reduceBEq, Int.reduceBNe, Int.reduceToNat]
          simp only [List.length_append, List.length_cons, List.length_nil]
        · simp -implicitDefEqProofs only [go_sem, ↓reduceIte, Nat.reduceEqDiff, Nat.reduceLT, Nat.reduceLeDiff, Nat.reduceAdd, Nat.reduceMul, Nat.reduceSub, reduceCtorEq, Nat.reduceMod, Nat.reduceBEq, Int.reduceBEq, Int.reduceBNe, Int.reduceToNat, e7]
          omega
      · simp -implicitDefEqProofs only [go_sem, ↓reduceIte, Nat.reduceEqDiff, Nat.reduceLT, Nat.reduceLeDiff, Nat.reduceAdd, Nat.reduceMul, Nat.reduceSub, reduceCtorEq, Nat.reduceMod, Nat.reduceBEq, Int.reduceBEq, Int.reduceBNe, Int.reduceToNat, e0, e5, e6, e7, d1]
        simp -implicitDefEqProofs only [go_sem, ↓reduceIte, Nat.reduceEqDiff, Nat.reduceLT, Nat.reduceLeDiff, Nat.reduceAdd, Nat.reduceMul, Nat.reduceSub, reduceCtorEq, Nat.reduceMod, Nat.reduceBEq, Int.reduceBEq, Int.reduceBNe, Int.reduceToNat, hat, rcells, (nz he).2]
        refine hQ _ _ _ ?_
        have hg0 : getF (n - out.length) s2 = ([], s2) := by
          rw [show n - out.length = (n - out.length - 1) + 1 by omega, getF, if_neg he]
        rw [hg0, List.append_nil] at hg
        rw [hg] at hK
        simp -implicitDefEqProofs only [go_sem, ↓reduceIte, Nat.reduceEqDiff, Nat.reduceLT, Nat.reduceLeDiff, Nat.reduceAdd, Nat.reduceMul, Nat.reduceSub, reduceCtorEq, Nat.reduceMod, Nat.reduceBEq, Int.reduceBEq, Int.reduceBNe, Int.reduceToNat, e5]
        exact ⟨_, fun _ _ h => h, hK _ hol⟩
    · have d1 : ¬ (out.length : Int) < (n : Int) := by omega
      have hg0 : n - out.length = 0 := by omega
      rw [hg0] at hg
      have hg1 : getF n s1 = (out, s2) := by rw [hg]; simp [getF]
      rw [hg1] at hK
      simp -implicitDefEqProofs only [go_sem, ↓reduceIte, Nat.reduceEqDiff, Nat.reduceLT, Nat.reduceLeDiff, Nat.reduceAdd, Nat.reduceMul, Nat.reduceSub, reduceCtorEq, Nat.reduceMod, Nat.reduceBEq, Int.reduceBEq, Int.reduceBNe, Int.reduceToNat, e6, e7, d1]
      refine hQ _ _ _ ?_
      simp -implicitDefEqProofs only [go_sem, ↓reduceIte, Nat.reduceEqDiff, Nat.reduceLT, Nat.reduceLeDiff, Nat.reduceAdd, Nat.reduceMul, Nat.reduceSub, reduceCtorEq, Nat.reduceMod, Nat.reduceBEq, Int.reduceBEq, Int.reduceBNe, Int.reduceToNat, e5]
      exact ⟨_, fun _ _ h => h, hK _ hol⟩
end Go.Proofs.Ytmplfmhcpkmpbaa.V
