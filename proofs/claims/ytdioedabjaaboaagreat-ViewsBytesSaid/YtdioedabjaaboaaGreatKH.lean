/- Maps: what operations would change; doing them. -/
import Derived.Test.YtdioedabjaaboaaGreatKG
set_option linter.unusedVariables false
set_option linter.unusedSimpArgs false
namespace Go.Proofs.YtdioedabjaaboaaGreat.V
open Go Go.VL

def hasQ (L : List Pr) (k : ByteArray) : Bool := (look k L).isSome
def getQ (L : List Pr) (k : ByteArray) : ByteArray := (look k L).getD ⟨#[]⟩
/-- A key has what is told. -/
def condQ (L : List Pr) (c : KO) : Bool := (hasQ L c.k == c.has) && same (getQ L c.k) c.v
def evOf (L : List Pr) (pos : Int) (c : KO) : List KV := if condQ L c then [] else [⟨pos, c.k, hasQ L c.k, getQ L c.k, c.has, c.v⟩]
def planE (L : List Pr) (pos : Int) (ops : List KO) : List KV := ops.flatMap (evOf L pos)
def delta (L : List Pr) (c : KO) : Int := if condQ L c then 0 else if hasQ L c.k then (if c.has then 0 else -1) else 1
def planN (L : List Pr) : List KO → Int
 | [] => L.length
 | c :: ops => planN L ops + delta L c
theorem planE_take {L : List Pr} {pos : Int} {ops : List KO} {k : Nat} {c : KO} (h : ops[k]? = some c) : planE L pos (ops.take (k + 1)) = planE L pos (ops.take k) ++ evOf L pos c := by
 rw [List.take_add_one, h]
 simp [planE]
theorem planN_app (L : List Pr) : ∀ (a : List KO) (c : KO), planN L (a ++ [c]) = planN L a + delta L c
 | [], c => rfl
 | x :: a, c => by
  show planN L (a ++ [c]) + delta L x = planN L a + delta L x + delta L c
  rw [planN_app L a c]
  omega
theorem planN_take {L : List Pr} {ops : List KO} {k : Nat} {c : KO} (h : ops[k]? = some c) : planN L (ops.take (k + 1)) = planN L (ops.take k) + delta L c := by
 rw [take_snoc h, planN_app]
theorem delta_le (L : List Pr) (c : KO) : -1 ≤ delta L c ∧ delta L c ≤ 1 := by
 unfold delta
 split
 ·omega
 ·split
  ·split <;> omega
  ·omega
theorem planN_le (L : List Pr) : ∀ a : List KO, (L.length : Int) - a.length ≤ planN L a ∧ planN L a ≤ L.length + a.length
 | [] => ⟨by simp [planN], by simp [planN]⟩
 | c :: a => by
  have h1 := planN_le L a
  have h2 := delta_le L c
  unfold planN
  simp only [List.length_cons]
  omega
theorem evOf_len (L : List Pr) (pos : Int) (c : KO) : (evOf L pos c).length ≤ 1 := by unfold evOf; split <;> simp
theorem planE_len (L : List Pr) (pos : Int) : ∀ a : List KO, (planE L pos a).length ≤ a.length
 | [] => Nat.le_refl _
 | c :: a => by
  have h1 := planE_len L pos a
  have h2 := evOf_len L pos c
  unfold planE at h1 ⊢
  rw [List.flatMap_cons, List.length_append]
  simp only [List.length_cons]
  omega
def planF (L : List Pr) (pos : Int) (conds ops : List KO) : List KV × Int :=
 if checkF conds ops = 0 then (if conds.all (condQ L) then (if 24 < planN L ops then ([], 7) else (planE L pos ops, 0)) else ([], 60)) else ([], checkF conds ops)
theorem checkF_len {conds ops : List KO} (h : checkF conds ops = 0) : ops.length ≤ 6 ∧ conds.length ≤ 6 ∧ rightF [] conds = 0 ∧ rightF [] ops = 0 := by
 unfold checkF at h
 split at h
 ·cases h
 ·rename_i h1
  split at h
  ·rename_i h2
   exact ⟨by omega, by omega, h2, h⟩
  ·exact absurd h (by assumption)
def encPl (r : List KV × Int) : PV := .tup [.sl .no 6 (encVs r.1), .int .i64 r.2]
theorem getQ_eq (L : List Pr) (k : ByteArray) : (look k L).getD ⟨#[]⟩ = getQ L k := rfl
theorem hasQ_eq (L : List Pr) (k : ByteArray) : (look k L).isSome = hasQ L k := rfl

set_option maxHeartbeats 4000000 in
theorem KPlan_spec {S : Store} {id : Nat} {t : T} (h : Km S id t) (hn : t.list.length ≤ 500000) (pos : Int) (conds ops : List KO) :
  PRet Tryz.prog 24 [.ref id 0, .int .i64 pos, .sl .no 3 (encOs conds), .sl .no 3 (encOs ops)] S (encPl (planF t.list pos conds ops)) := by
 intro K hK
 unfold encPl at hK
 refine pcalls_of (C := C) (fun d => d == 88 || d == 15) (fun _ => false) Tryz.func24 rfl rfl (by simp [Tryz.f24]) ?_
 simp -implicitDefEqProofs only [go_sem, ↓reduceIte, Nat.reduceEqDiff, Nat.reduceLT, Nat.reduceLeDiff, Nat.reduceAdd, Nat.reduceMul, Nat.reduceSub, reduceCtorEq, Nat.reduceMod, Nat.reduceBEq, Int.reduceBEq, Int.reduceBNe, Int.reduceToNat, Tryz.f24]
 refine made_spec h _ ?_
 simp -implicitDefEqProofs only [go_sem, ↓reduceIte, Nat.reduceEqDiff, Nat.reduceLT, Nat.reduceLeDiff, Nat.reduceAdd, Nat.reduceMul, Nat.reduceSub, reduceCtorEq, Nat.reduceMod, Nat.reduceBEq, Int.reduceBEq, Int.reduceBNe, Int.reduceToNat]
 refine Check_spec conds ops _ _ ?_
 unfold planF at hK
 by_cases hc : checkF conds ops = 0
 ·obtain ⟨lo, lc, _, _⟩ := checkF_len hc
  rw [if_pos hc] at hK
  rw [hc]
  simp -implicitDefEqProofs only [go_sem, ↓reduceIte, Nat.reduceEqDiff, Nat.reduceLT, Nat.reduceLeDiff, Nat.reduceAdd, Nat.reduceMul, Nat.reduceSub, reduceCtorEq, Nat.reduceMod, Nat.reduceBEq, Int.reduceBEq, Int.reduceBNe, Int.reduceToNat, i00]
  refine vloop (fun e S' => S' = S ∧ ∃ k : Nat, k ≤ conds.length ∧ conds.all (condQ t.list) = (conds.drop k).all (condQ t.list) ∧ e 0 = .ref id 0 ∧ e 1 = .int .i64 pos ∧ e 3 = .sl .no 3 (encOs ops) ∧ e 30 = .sl .no 3 (encOs conds) ∧ e 31 = .int .i64 conds.length ∧ e 32 = .int .i64 k) (fun e _ => conds.length - iv (e 32)) ?_ ?_
  ·exact ⟨rfl, 0, Nat.zero_le _, rfl, rfl, rfl, rfl, rfl, rfl, rfl⟩
  ·rintro J M Q' hJ hM hQ e S' ⟨rfl, k, hk, hr, e0, e1, e3, e30, e31, e32⟩
   by_cases hlt : k < conds.length
   ·obtain ⟨c, hcc⟩ : ∃ c, conds[k]? = some c := ⟨_, List.getElem?_eq_getElem hlt⟩
    have hin : (0 : Int) ≤ k ∧ (k : Int) < conds.length := by omega
    have hk1 : IntKind.i64.wrap ((k : Int) + 1) = ((k + 1 : Nat) : Int) := wrap64 (by omega) (by omega)
    rw [drop_cons hcc, List.all_cons] at hr
    simp -implicitDefEqProofs only [go_sem, ↓reduceIte, Nat.reduceEqDiff, Nat.reduceLT, Nat.reduceLeDiff, Nat.reduceAdd, Nat.reduceMul, Nat.reduceSub, reduceCtorEq, Nat.reduceMod, Nat.reduceBEq, Int.reduceBEq, Int.reduceBNe, Int.reduceToNat, hin, hlt, e30, e31, e32, getD_encOs hcc]
    refine vwp_draw (by decide +kernel) ?_
    simp -implicitDefEqProofs only [go_sem, ↓reduceIte, Nat.reduceEqDiff, Nat.reduceLT, Nat.reduceLeDiff, Nat.reduceAdd, Nat.reduceMul, Nat.reduceSub, reduceCtorEq, Nat.reduceMod, Nat.reduceBEq, Int.reduceBEq, Int.reduceBNe, Int.reduceToNat, e0, h.at]
    refine q_call _ (by simp -implicitDefEqProofs only [go_sem, ↓reduceIte, Nat.reduceEqDiff]; exact Get_spec (Tr.mk t) h.2.2 c.k _) (by decide) rfl ?_
    rw [getQ_eq, hasQ_eq]
    have hcd : condQ t.list c = (hasQ t.list c.k == c.has && same (getQ t.list c.k) c.v) := rfl
    rw [hcd] at hr
    clear hcd
    generalize hasQ t.list c.k = ok at hr ⊢
    generalize getQ t.list c.k = v at hr ⊢
    cases ok <;> cases hh : c.has <;> cases hs : same v c.v
    ·rw [hh, hs] at hr
     simp only [bt1, bt2, bt3, bt4, bn1, bn2, bn3, bn4, Bool.and_self, Bool.and_false, Bool.false_and, Bool.true_and, Bool.and_true] at hr
     rw [hr] at hK
     simp only [Bool.false_eq_true, if_false] at hK
     simp -implicitDefEqProofs only [go_sem, ↓reduceIte, Nat.reduceEqDiff, Nat.reduceLT, Nat.reduceLeDiff, Nat.reduceAdd, Nat.reduceMul, Nat.reduceSub, reduceCtorEq, Nat.reduceMod, Nat.reduceBEq, Int.reduceBEq, Int.reduceBNe, Int.reduceToNat, bt1, bt2, bt3, bt4, bn1, bn2, bn3, bn4, hh, hs]
     refine hQ _ _ _ ?_
     simp -implicitDefEqProofs only [go_sem, ↓reduceIte, Nat.reduceEqDiff, Nat.reduceLT, Nat.reduceLeDiff, Nat.reduceAdd, Nat.reduceMul, Nat.reduceSub, reduceCtorEq, Nat.reduceMod, Nat.reduceBEq, Int.reduceBEq, Int.reduceBNe, Int.reduceToNat]
     exact ⟨S', fun _ _ h => h, hK⟩
    ·rw [hh, hs] at hr
     simp only [bt1, bt2, bt3, bt4, bn1, bn2, bn3, bn4, Bool.and_self, Bool.and_false, Bool.false_and, Bool.true_and, Bool.and_true] at hr
     simp -implicitDefEqProofs only [go_sem, ↓reduceIte, Nat.reduceEqDiff, Nat.reduceLT, Nat.reduceLeDiff, Nat.reduceAdd, Nat.reduceMul, Nat.reduceSub, reduceCtorEq, Nat.reduceMod, Nat.reduceBEq, Int.reduceBEq, Int.reduceBNe, Int.reduceToNat, bt1, bt2, bt3, bt4, bn1, bn2, bn3, bn4, hh, hs, e32, hk1]
     refine vnext hJ hM S' (fun _ _ h => h) ⟨rfl, k + 1, hlt, hr, ?_, ?_, ?_, ?_, ?_, ?_⟩ ?_
     ·simp -implicitDefEqProofs only [go_sem, ↓reduceIte, Nat.reduceEqDiff, e0]
     ·simp -implicitDefEqProofs only [go_sem, ↓reduceIte, Nat.reduceEqDiff, e1]
     ·simp -implicitDefEqProofs only [go_sem, ↓reduceIte, Nat.reduceEqDiff, e3]
     ·simp -implicitDefEqProofs only [go_sem, ↓reduceIte, Nat.reduceEqDiff, e30]
     ·simp -implicitDefEqProofs only [go_sem, ↓reduceIte, Nat.reduceEqDiff, e31]
     ·simp -implicitDefEqProofs only [go_sem, ↓reduceIte, Nat.reduceEqDiff]
     ·simp -implicitDefEqProofs only [go_sem, ↓reduceIte, Nat.reduceEqDiff, e32]
      omega
    ·rw [hh, hs] at hr
     simp only [bt1, bt2, bt3, bt4, bn1, bn2, bn3, bn4, Bool.and_self, Bool.and_false, Bool.false_and, Bool.true_and, Bool.and_true] at hr
     rw [hr] at hK
     simp only [Bool.false_eq_true, if_false] at hK
     simp -implicitDefEqProofs only [go_sem, ↓reduceIte, Nat.reduceEqDiff, Nat.reduceLT, Nat.reduceLeDiff, Nat.reduceAdd, Nat.reduceMul, Nat.reduceSub, reduceCtorEq, Nat.reduceMod, Nat.reduceBEq, Int.reduceBEq, Int.reduceBNe, Int.reduceToNat, bt1, bt2, bt3, bt4, bn1, bn2, bn3, bn4, hh, hs]
     refine hQ _ _ _ ?_
     simp -implicitDefEqProofs only [go_sem, ↓reduceIte, Nat.reduceEqDiff, Nat.reduceLT, Nat.reduceLeDiff, Nat.reduceAdd, Nat.reduceMul, Nat.reduceSub, reduceCtorEq, Nat.reduceMod, Nat.reduceBEq, Int.reduceBEq, Int.reduceBNe, Int.reduceToNat]
     exact ⟨S', fun _ _ h => h, hK⟩
    ·rw [hh, hs] at hr
     simp only [bt1, bt2, bt3, bt4, bn1, bn2, bn3, bn4, Bool.and_self, Bool.and_false, Bool.false_and, Bool.true_and, Bool.and_true] at hr
     rw [hr] at hK
     simp only [Bool.false_eq_true, if_false] at hK
     simp -implicitDefEqProofs only [go_sem, ↓reduceIte, Nat.reduceEqDiff, Nat.reduceLT, Nat.reduceLeDiff, Nat.reduceAdd, Nat.reduceMul, Nat.reduceSub, reduceCtorEq, Nat.reduceMod, Nat.reduceBEq, Int.reduceBEq, Int.reduceBNe, Int.reduceToNat, bt1, bt2, bt3, bt4, bn1, bn2, bn3, bn4, hh, hs]
     refine hQ _ _ _ ?_
     simp -implicitDefEqProofs only [go_sem, ↓reduceIte, Nat.reduceEqDiff, Nat.reduceLT, Nat.reduceLeDiff, Nat.reduceAdd, Nat.reduceMul, Nat.reduceSub, reduceCtorEq, Nat.reduceMod, Nat.reduceBEq, Int.reduceBEq, Int.reduceBNe, Int.reduceToNat]
     exact ⟨S', fun _ _ h => h, hK⟩
    ·rw [hh, hs] at hr
     simp only [bt1, bt2, bt3, bt4, bn1, bn2, bn3, bn4, Bool.and_self, Bool.and_false, Bool.false_and, Bool.true_and, Bool.and_true] at hr
     rw [hr] at hK
     simp only [Bool.false_eq_true, if_false] at hK
     simp -implicitDefEqProofs only [go_sem, ↓reduceIte, Nat.reduceEqDiff, Nat.reduceLT, Nat.reduceLeDiff, Nat.reduceAdd, Nat.reduceMul, Nat.reduceSub, reduceCtorEq, Nat.reduceMod, Nat.reduceBEq, Int.reduceBEq, Int.reduceBNe, Int.reduceToNat, bt1, bt2, bt3, bt4, bn1, bn2, bn3, bn4, hh, hs]
     refine hQ _ _ _ ?_
     simp -implicitDefEqProofs only [go_sem, ↓reduceIte, Nat.reduceEqDiff, Nat.reduceLT, Nat.reduceLeDiff, Nat.reduceAdd, Nat.reduceMul, Nat.reduceSub, reduceCtorEq, Nat.reduceMod, Nat.reduceBEq, Int.reduceBEq, Int.reduceBNe, Int.reduceToNat]
     exact ⟨S', fun _ _ h => h, hK⟩
    ·rw [hh, hs] at hr
     simp only [bt1, bt2, bt3, bt4, bn1, bn2, bn3, bn4, Bool.and_self, Bool.and_false, Bool.false_and, Bool.true_and, Bool.and_true] at hr
     rw [hr] at hK
     simp only [Bool.false_eq_true, if_false] at hK
     simp -implicitDefEqProofs only [go_sem, ↓reduceIte, Nat.reduceEqDiff, Nat.reduceLT, Nat.reduceLeDiff, Nat.reduceAdd, Nat.reduceMul, Nat.reduceSub, reduceCtorEq, Nat.reduceMod, Nat.reduceBEq, Int.reduceBEq, Int.reduceBNe, Int.reduceToNat, bt1, bt2, bt3, bt4, bn1, bn2, bn3, bn4, hh, hs]
     refine hQ _ _ _ ?_
     simp -implicitDefEqProofs only [go_sem, ↓reduceIte, Nat.reduceEqDiff, Nat.reduceLT, Nat.reduceLeDiff, Nat.reduceAdd, Nat.reduceMul, Nat.reduceSub, reduceCtorEq, Nat.reduceMod, Nat.reduceBEq, Int.reduceBEq, Int.reduceBNe, Int.reduceToNat]
     exact ⟨S', fun _ _ h => h, hK⟩
    ·rw [hh, hs] at hr
     simp only [bt1, bt2, bt3, bt4, bn1, bn2, bn3, bn4, Bool.and_self, Bool.and_false, Bool.false_and, Bool.true_and, Bool.and_true] at hr
     rw [hr] at hK
     simp only [Bool.false_eq_true, if_false] at hK
     simp -implicitDefEqProofs only [go_sem, ↓reduceIte, Nat.reduceEqDiff, Nat.reduceLT, Nat.reduceLeDiff, Nat.reduceAdd, Nat.reduceMul, Nat.reduceSub, reduceCtorEq, Nat.reduceMod, Nat.reduceBEq, Int.reduceBEq, Int.reduceBNe, Int.reduceToNat, bt1, bt2, bt3, bt4, bn1, bn2, bn3, bn4, hh, hs]
     refine hQ _ _ _ ?_
     simp -implicitDefEqProofs only [go_sem, ↓reduceIte, Nat.reduceEqDiff, Nat.reduceLT, Nat.reduceLeDiff, Nat.reduceAdd, Nat.reduceMul, Nat.reduceSub, reduceCtorEq, Nat.reduceMod, Nat.reduceBEq, Int.reduceBEq, Int.reduceBNe, Int.reduceToNat]
     exact ⟨S', fun _ _ h => h, hK⟩
    ·rw [hh, hs] at hr
     simp only [bt1, bt2, bt3, bt4, bn1, bn2, bn3, bn4, Bool.and_self, Bool.and_false, Bool.false_and, Bool.true_and, Bool.and_true] at hr
     simp -implicitDefEqProofs only [go_sem, ↓reduceIte, Nat.reduceEqDiff, Nat.reduceLT, Nat.reduceLeDiff, Nat.reduceAdd, Nat.reduceMul, Nat.reduceSub, reduceCtorEq, Nat.reduceMod, Nat.reduceBEq, Int.reduceBEq, Int.reduceBNe, Int.reduceToNat, bt1, bt2, bt3, bt4, bn1, bn2, bn3, bn4, hh, hs, e32, hk1]
     refine vnext hJ hM S' (fun _ _ h => h) ⟨rfl, k + 1, hlt, hr, ?_, ?_, ?_, ?_, ?_, ?_⟩ ?_
     ·simp -implicitDefEqProofs only [go_sem, ↓reduceIte, Nat.reduceEqDiff, e0]
     ·simp -implicitDefEqProofs only [go_sem, ↓reduceIte, Nat.reduceEqDiff, e1]
     ·simp -implicitDefEqProofs only [go_sem, ↓reduceIte, Nat.reduceEqDiff, e3]
     ·simp -implicitDefEqProofs only [go_sem, ↓reduceIte, Nat.reduceEqDiff, e30]
     ·simp -implicitDefEqProofs only [go_sem, ↓reduceIte, Nat.reduceEqDiff, e31]
     ·simp -implicitDefEqProofs only [go_sem, ↓reduceIte, Nat.reduceEqDiff]
     ·simp -implicitDefEqProofs only [go_sem, ↓reduceIte, Nat.reduceEqDiff, e32]
      omega
   ·have hcc : ¬ (k : Int) < conds.length := by omega
    rw [List.drop_of_length_le (by omega)] at hr
    rw [hr] at hK
    simp only [List.all_nil, if_true] at hK
    simp -implicitDefEqProofs only [go_sem, ↓reduceIte, Nat.reduceEqDiff, Nat.reduceLT, Nat.reduceLeDiff, Nat.reduceAdd, Nat.reduceMul, Nat.reduceSub, reduceCtorEq, Nat.reduceMod, Nat.reduceBEq, Int.reduceBEq, Int.reduceBNe, Int.reduceToNat, hcc, e31, e32]
    refine hQ _ _ _ ?_
    simp -implicitDefEqProofs only [go_sem, ↓reduceIte, Nat.reduceEqDiff, Nat.reduceLT, Nat.reduceLeDiff, Nat.reduceAdd, Nat.reduceMul, Nat.reduceSub, reduceCtorEq, Nat.reduceMod, Nat.reduceBEq, Int.reduceBEq, Int.reduceBNe, Int.reduceToNat, e0, h.at]
    refine len_spec (Tr.mk t) _ _ ?_
    rw [(ok_size t h.2.1).1]
    simp -implicitDefEqProofs only [go_sem, ↓reduceIte, Nat.reduceEqDiff, Nat.reduceLT, Nat.reduceLeDiff, Nat.reduceAdd, Nat.reduceMul, Nat.reduceSub, reduceCtorEq, Nat.reduceMod, Nat.reduceBEq, Int.reduceBEq, Int.reduceBNe, Int.reduceToNat, e3]
    refine vloop (fun e S2 => S2 = S' ∧ ∃ k : Nat, k ≤ ops.length ∧ e 0 = .ref id 0 ∧ e 1 = .int .i64 pos ∧ e 15 = .sl .tail 6 (encVs (planE t.list pos (ops.take k))) ∧ e 16 = .int .i64 (planN t.list (ops.take k)) ∧ e 62 = .sl .no 3 (encOs ops) ∧ e 63 = .int .i64 ops.length ∧ e 64 = .int .i64 k) (fun e _ => ops.length - iv (e 64)) ?_ ?_
    ·exact ⟨rfl, 0, Nat.zero_le _, by simp -implicitDefEqProofs only [go_sem, ↓reduceIte, Nat.reduceEqDiff, e0], by simp -implicitDefEqProofs only [go_sem, ↓reduceIte, Nat.reduceEqDiff, e1], by simp -implicitDefEqProofs only [go_sem, ↓reduceIte, Nat.reduceEqDiff]; rfl, by simp -implicitDefEqProofs only [go_sem, ↓reduceIte, Nat.reduceEqDiff]; rfl, by simp -implicitDefEqProofs only [go_sem, ↓reduceIte, Nat.reduceEqDiff], by simp -implicitDefEqProofs only [go_sem, ↓reduceIte, Nat.reduceEqDiff], by simp -implicitDefEqProofs only [go_sem, ↓reduceIte, Nat.reduceEqDiff]⟩
    ·rintro J2 M2 Q2 hJ2 hM2 hQ2 e' S2 ⟨rfl, m, hm, g0, g1, g15, g16, g62, g63, g64⟩
     by_cases hl2 : m < ops.length
     ·obtain ⟨c, hco⟩ : ∃ c, ops[m]? = some c := ⟨_, List.getElem?_eq_getElem hl2⟩
      have hin2 : (0 : Int) ≤ m ∧ (m : Int) < ops.length := by omega
      have hm1 : IntKind.i64.wrap ((m : Int) + 1) = ((m + 1 : Nat) : Int) := wrap64 (by omega) (by omega)
      have hst := planE_take (L := t.list) (pos := pos) hco
      have hnn := planN_take (L := t.list) hco
      have hel := planE_len t.list pos (ops.take m)
      rw [List.length_take] at hel
      have hpl := planN_le t.list (ops.take m)
      rw [List.length_take] at hpl
      have hap := small72 (k := (planE t.list pos (ops.take m)).length + 1) (by omega)
      have hw1 : IntKind.i64.wrap (planN t.list (ops.take m) + 1) = planN t.list (ops.take m) + 1 := wrap64 (by omega) (by omega)
      have hw2 : IntKind.i64.wrap (planN t.list (ops.take m) - 1) = planN t.list (ops.take m) + -1 := by rw [wrap64 (by omega) (by omega)]; omega
      simp -implicitDefEqProofs only [go_sem, ↓reduceIte, Nat.reduceEqDiff, Nat.reduceLT, Nat.reduceLeDiff, Nat.reduceAdd, Nat.reduceMul, Nat.reduceSub, reduceCtorEq, Nat.reduceMod, Nat.reduceBEq, Int.reduceBEq, Int.reduceBNe, Int.reduceToNat, hin2, hl2, g62, g63, g64, getD_encOs hco]
      refine vwp_draw (by decide +kernel) ?_
      simp -implicitDefEqProofs only [go_sem, ↓reduceIte, Nat.reduceEqDiff, Nat.reduceLT, Nat.reduceLeDiff, Nat.reduceAdd, Nat.reduceMul, Nat.reduceSub, reduceCtorEq, Nat.reduceMod, Nat.reduceBEq, Int.reduceBEq, Int.reduceBNe, Int.reduceToNat, g0, h.at]
      refine q_call _ (by simp -implicitDefEqProofs only [go_sem, ↓reduceIte, Nat.reduceEqDiff]; exact Get_spec (Tr.mk t) h.2.2 c.k _) (by decide) rfl ?_
      rw [getQ_eq, hasQ_eq]
      unfold evOf condQ at hst
      unfold delta condQ at hnn
      generalize hasQ t.list c.k = ok at hst hnn ⊢
      generalize getQ t.list c.k = v at hst hnn ⊢
      cases ok <;> cases hh : c.has <;> cases hs : same v c.v
      ·rw [hh, hs] at hst hnn
       simp only [bt1, bt2, bt3, bt4, bn1, bn2, bn3, bn4, Bool.and_self, Bool.and_false, Bool.false_and, Bool.true_and, Bool.and_true, if_true, if_false, Bool.false_eq_true, List.append_nil, Int.add_zero] at hst hnn
       simp -implicitDefEqProofs only [go_sem, ↓reduceIte, Nat.reduceEqDiff, Nat.reduceLT, Nat.reduceLeDiff, Nat.reduceAdd, Nat.reduceMul, Nat.reduceSub, reduceCtorEq, Nat.reduceMod, Nat.reduceBEq, Int.reduceBEq, Int.reduceBNe, Int.reduceToNat, bt1, bt2, bt3, bt4, bn1, bn2, bn3, bn4, hh, hs, g0, g1, g15, g16, g64, hm1, hap, hw1]
       refine vnext hJ2 hM2 S2 (fun _ _ h => h) ⟨rfl, m + 1, hl2, ?_, ?_, ?_, ?_, ?_, ?_, ?_⟩ ?_
       ·simp -implicitDefEqProofs only [go_sem, ↓reduceIte, Nat.reduceEqDiff, g0]
       ·simp -implicitDefEqProofs only [go_sem, ↓reduceIte, Nat.reduceEqDiff, g1]
       ·simp -implicitDefEqProofs only [go_sem, ↓reduceIte, Nat.reduceEqDiff]; rw [hst, encVs_one]
       ·simp -implicitDefEqProofs only [go_sem, ↓reduceIte, Nat.reduceEqDiff]; rw [hnn]
       ·simp -implicitDefEqProofs only [go_sem, ↓reduceIte, Nat.reduceEqDiff, g62]
       ·simp -implicitDefEqProofs only [go_sem, ↓reduceIte, Nat.reduceEqDiff, g63]
       ·simp -implicitDefEqProofs only [go_sem, ↓reduceIte, Nat.reduceEqDiff]
       ·simp -implicitDefEqProofs only [go_sem, ↓reduceIte, Nat.reduceEqDiff, g64]
        omega
      ·rw [hh, hs] at hst hnn
       simp only [bt1, bt2, bt3, bt4, bn1, bn2, bn3, bn4, Bool.and_self, Bool.and_false, Bool.false_and, Bool.true_and, Bool.and_true, if_true, if_false, Bool.false_eq_true, List.append_nil, Int.add_zero] at hst hnn
       simp -implicitDefEqProofs only [go_sem, ↓reduceIte, Nat.reduceEqDiff, Nat.reduceLT, Nat.reduceLeDiff, Nat.reduceAdd, Nat.reduceMul, Nat.reduceSub, reduceCtorEq, Nat.reduceMod, Nat.reduceBEq, Int.reduceBEq, Int.reduceBNe, Int.reduceToNat, bt1, bt2, bt3, bt4, bn1, bn2, bn3, bn4, hh, hs, g0, g1, g15, g16, g64, hm1]
       refine vnext hJ2 hM2 S2 (fun _ _ h => h) ⟨rfl, m + 1, hl2, ?_, ?_, ?_, ?_, ?_, ?_, ?_⟩ ?_
       ·simp -implicitDefEqProofs only [go_sem, ↓reduceIte, Nat.reduceEqDiff, g0]
       ·simp -implicitDefEqProofs only [go_sem, ↓reduceIte, Nat.reduceEqDiff, g1]
       ·simp -implicitDefEqProofs only [go_sem, ↓reduceIte, Nat.reduceEqDiff, g15]; rw [hst]
       ·simp -implicitDefEqProofs only [go_sem, ↓reduceIte, Nat.reduceEqDiff, g16]; rw [hnn]
       ·simp -implicitDefEqProofs only [go_sem, ↓reduceIte, Nat.reduceEqDiff, g62]
       ·simp -implicitDefEqProofs only [go_sem, ↓reduceIte, Nat.reduceEqDiff, g63]
       ·simp -implicitDefEqProofs only [go_sem, ↓reduceIte, Nat.reduceEqDiff]
       ·simp -implicitDefEqProofs only [go_sem, ↓reduceIte, Nat.reduceEqDiff, g64]
        omega
      ·rw [hh, hs] at hst hnn
       simp only [bt1, bt2, bt3, bt4, bn1, bn2, bn3, bn4, Bool.and_self, Bool.and_false, Bool.false_and, Bool.true_and, Bool.and_true, if_true, if_false, Bool.false_eq_true, List.append_nil, Int.add_zero] at hst hnn
       simp -implicitDefEqProofs only [go_sem, ↓reduceIte, Nat.reduceEqDiff, Nat.reduceLT, Nat.reduceLeDiff, Nat.reduceAdd, Nat.reduceMul, Nat.reduceSub, reduceCtorEq, Nat.reduceMod, Nat.reduceBEq, Int.reduceBEq, Int.reduceBNe, Int.reduceToNat, bt1, bt2, bt3, bt4, bn1, bn2, bn3, bn4, hh, hs, g0, g1, g15, g16, g64, hm1, hap, hw1]
       refine vnext hJ2 hM2 S2 (fun _ _ h => h) ⟨rfl, m + 1, hl2, ?_, ?_, ?_, ?_, ?_, ?_, ?_⟩ ?_
       ·simp -implicitDefEqProofs only [go_sem, ↓reduceIte, Nat.reduceEqDiff, g0]
       ·simp -implicitDefEqProofs only [go_sem, ↓reduceIte, Nat.reduceEqDiff, g1]
       ·simp -implicitDefEqProofs only [go_sem, ↓reduceIte, Nat.reduceEqDiff]; rw [hst, encVs_one]
       ·simp -implicitDefEqProofs only [go_sem, ↓reduceIte, Nat.reduceEqDiff]; rw [hnn]
       ·simp -implicitDefEqProofs only [go_sem, ↓reduceIte, Nat.reduceEqDiff, g62]
       ·simp -implicitDefEqProofs only [go_sem, ↓reduceIte, Nat.reduceEqDiff, g63]
       ·simp -implicitDefEqProofs only [go_sem, ↓reduceIte, Nat.reduceEqDiff]
       ·simp -implicitDefEqProofs only [go_sem, ↓reduceIte, Nat.reduceEqDiff, g64]
        omega
      ·rw [hh, hs] at hst hnn
       simp only [bt1, bt2, bt3, bt4, bn1, bn2, bn3, bn4, Bool.and_self, Bool.and_false, Bool.false_and, Bool.true_and, Bool.and_true, if_true, if_false, Bool.false_eq_true, List.append_nil, Int.add_zero] at hst hnn
       simp -implicitDefEqProofs only [go_sem, ↓reduceIte, Nat.reduceEqDiff, Nat.reduceLT, Nat.reduceLeDiff, Nat.reduceAdd, Nat.reduceMul, Nat.reduceSub, reduceCtorEq, Nat.reduceMod, Nat.reduceBEq, Int.reduceBEq, Int.reduceBNe, Int.reduceToNat, bt1, bt2, bt3, bt4, bn1, bn2, bn3, bn4, hh, hs, g0, g1, g15, g16, g64, hm1, hap, hw1]
       refine vnext hJ2 hM2 S2 (fun _ _ h => h) ⟨rfl, m + 1, hl2, ?_, ?_, ?_, ?_, ?_, ?_, ?_⟩ ?_
       ·simp -implicitDefEqProofs only [go_sem, ↓reduceIte, Nat.reduceEqDiff, g0]
       ·simp -implicitDefEqProofs only [go_sem, ↓reduceIte, Nat.reduceEqDiff, g1]
       ·simp -implicitDefEqProofs only [go_sem, ↓reduceIte, Nat.reduceEqDiff]; rw [hst, encVs_one]
       ·simp -implicitDefEqProofs only [go_sem, ↓reduceIte, Nat.reduceEqDiff]; rw [hnn]
       ·simp -implicitDefEqProofs only [go_sem, ↓reduceIte, Nat.reduceEqDiff, g62]
       ·simp -implicitDefEqProofs only [go_sem, ↓reduceIte, Nat.reduceEqDiff, g63]
       ·simp -implicitDefEqProofs only [go_sem, ↓reduceIte, Nat.reduceEqDiff]
       ·simp -implicitDefEqProofs only [go_sem, ↓reduceIte, Nat.reduceEqDiff, g64]
        omega
      ·rw [hh, hs] at hst hnn
       simp only [bt1, bt2, bt3, bt4, bn1, bn2, bn3, bn4, Bool.and_self, Bool.and_false, Bool.false_and, Bool.true_and, Bool.and_true, if_true, if_false, Bool.false_eq_true, List.append_nil, Int.add_zero] at hst hnn
       simp -implicitDefEqProofs only [go_sem, ↓reduceIte, Nat.reduceEqDiff, Nat.reduceLT, Nat.reduceLeDiff, Nat.reduceAdd, Nat.reduceMul, Nat.reduceSub, reduceCtorEq, Nat.reduceMod, Nat.reduceBEq, Int.reduceBEq, Int.reduceBNe, Int.reduceToNat, bt1, bt2, bt3, bt4, bn1, bn2, bn3, bn4, hh, hs, g0, g1, g15, g16, g64, hm1, hap, hw2]
       refine vnext hJ2 hM2 S2 (fun _ _ h => h) ⟨rfl, m + 1, hl2, ?_, ?_, ?_, ?_, ?_, ?_, ?_⟩ ?_
       ·simp -implicitDefEqProofs only [go_sem, ↓reduceIte, Nat.reduceEqDiff, g0]
       ·simp -implicitDefEqProofs only [go_sem, ↓reduceIte, Nat.reduceEqDiff, g1]
       ·simp -implicitDefEqProofs only [go_sem, ↓reduceIte, Nat.reduceEqDiff]; rw [hst, encVs_one]
       ·simp -implicitDefEqProofs only [go_sem, ↓reduceIte, Nat.reduceEqDiff]; rw [hnn]
       ·simp -implicitDefEqProofs only [go_sem, ↓reduceIte, Nat.reduceEqDiff, g62]
       ·simp -implicitDefEqProofs only [go_sem, ↓reduceIte, Nat.reduceEqDiff, g63]
       ·simp -implicitDefEqProofs only [go_sem, ↓reduceIte, Nat.reduceEqDiff]
       ·simp -implicitDefEqProofs only [go_sem, ↓reduceIte, Nat.reduceEqDiff, g64]
        omega
      ·rw [hh, hs] at hst hnn
       simp only [bt1, bt2, bt3, bt4, bn1, bn2, bn3, bn4, Bool.and_self, Bool.and_false, Bool.false_and, Bool.true_and, Bool.and_true, if_true, if_false, Bool.false_eq_true, List.append_nil, Int.add_zero] at hst hnn
       simp -implicitDefEqProofs only [go_sem, ↓reduceIte, Nat.reduceEqDiff, Nat.reduceLT, Nat.reduceLeDiff, Nat.reduceAdd, Nat.reduceMul, Nat.reduceSub, reduceCtorEq, Nat.reduceMod, Nat.reduceBEq, Int.reduceBEq, Int.reduceBNe, Int.reduceToNat, bt1, bt2, bt3, bt4, bn1, bn2, bn3, bn4, hh, hs, g0, g1, g15, g16, g64, hm1, hap, hw2]
       refine vnext hJ2 hM2 S2 (fun _ _ h => h) ⟨rfl, m + 1, hl2, ?_, ?_, ?_, ?_, ?_, ?_, ?_⟩ ?_
       ·simp -implicitDefEqProofs only [go_sem, ↓reduceIte, Nat.reduceEqDiff, g0]
       ·simp -implicitDefEqProofs only [go_sem, ↓reduceIte, Nat.reduceEqDiff, g1]
       ·simp -implicitDefEqProofs only [go_sem, ↓reduceIte, Nat.reduceEqDiff]; rw [hst, encVs_one]
       ·simp -implicitDefEqProofs only [go_sem, ↓reduceIte, Nat.reduceEqDiff]; rw [hnn]
       ·simp -implicitDefEqProofs only [go_sem, ↓reduceIte, Nat.reduceEqDiff, g62]
       ·simp -implicitDefEqProofs only [go_sem, ↓reduceIte, Nat.reduceEqDiff, g63]
       ·simp -implicitDefEqProofs only [go_sem, ↓reduceIte, Nat.reduceEqDiff]
       ·simp -implicitDefEqProofs only [go_sem, ↓reduceIte, Nat.reduceEqDiff, g64]
        omega
      ·rw [hh, hs] at hst hnn
       simp only [bt1, bt2, bt3, bt4, bn1, bn2, bn3, bn4, Bool.and_self, Bool.and_false, Bool.false_and, Bool.true_and, Bool.and_true, if_true, if_false, Bool.false_eq_true, List.append_nil, Int.add_zero] at hst hnn
       simp -implicitDefEqProofs only [go_sem, ↓reduceIte, Nat.reduceEqDiff, Nat.reduceLT, Nat.reduceLeDiff, Nat.reduceAdd, Nat.reduceMul, Nat.reduceSub, reduceCtorEq, Nat.reduceMod, Nat.reduceBEq, Int.reduceBEq, Int.reduceBNe, Int.reduceToNat, bt1, bt2, bt3, bt4, bn1, bn2, bn3, bn4, hh, hs, g0, g1, g15, g16, g64, hm1, hap]
       refine vnext hJ2 hM2 S2 (fun _ _ h => h) ⟨rfl, m + 1, hl2, ?_, ?_, ?_, ?_, ?_, ?_, ?_⟩ ?_
       ·simp -implicitDefEqProofs only [go_sem, ↓reduceIte, Nat.reduceEqDiff, g0]
       ·simp -implicitDefEqProofs only [go_sem, ↓reduceIte, Nat.reduceEqDiff, g1]
       ·simp -implicitDefEqProofs only [go_sem, ↓reduceIte, Nat.reduceEqDiff]; rw [hst, encVs_one]
       ·simp -implicitDefEqProofs only [go_sem, ↓reduceIte, Nat.reduceEqDiff, g16]; rw [hnn]
       ·simp -implicitDefEqProofs only [go_sem, ↓reduceIte, Nat.reduceEqDiff, g62]
       ·simp -implicitDefEqProofs only [go_sem, ↓reduceIte, Nat.reduceEqDiff, g63]
       ·simp -implicitDefEqProofs only [go_sem, ↓reduceIte, Nat.reduceEqDiff]
       ·simp -implicitDefEqProofs only [go_sem, ↓reduceIte, Nat.reduceEqDiff, g64]
        omega
      ·rw [hh, hs] at hst hnn
       simp only [bt1, bt2, bt3, bt4, bn1, bn2, bn3, bn4, Bool.and_self, Bool.and_false, Bool.false_and, Bool.true_and, Bool.and_true, if_true, if_false, Bool.false_eq_true, List.append_nil, Int.add_zero] at hst hnn
       simp -implicitDefEqProofs only [go_sem, ↓reduceIte, Nat.reduceEqDiff, Nat.reduceLT, Nat.reduceLeDiff, Nat.reduceAdd, Nat.reduceMul, Nat.reduceSub, reduceCtorEq, Nat.reduceMod, Nat.reduceBEq, Int.reduceBEq, Int.reduceBNe, Int.reduceToNat, bt1, bt2, bt3, bt4, bn1, bn2, bn3, bn4, hh, hs, g0, g1, g15, g16, g64, hm1]
       refine vnext hJ2 hM2 S2 (fun _ _ h => h) ⟨rfl, m + 1, hl2, ?_, ?_, ?_, ?_, ?_, ?_, ?_⟩ ?_
       ·simp -implicitDefEqProofs only [go_sem, ↓reduceIte, Nat.reduceEqDiff, g0]
       ·simp -implicitDefEqProofs only [go_sem, ↓reduceIte, Nat.reduceEqDiff, g1]
       ·simp -implicitDefEqProofs only [go_sem, ↓reduceIte, Nat.reduceEqDiff, g15]; rw [hst]
       ·simp -implicitDefEqProofs only [go_sem, ↓reduceIte, Nat.reduceEqDiff, g16]; rw [hnn]
       ·simp -implicitDefEqProofs only [go_sem, ↓reduceIte, Nat.reduceEqDiff, g62]
       ·simp -implicitDefEqProofs only [go_sem, ↓reduceIte, Nat.reduceEqDiff, g63]
       ·simp -implicitDefEqProofs only [go_sem, ↓reduceIte, Nat.reduceEqDiff]
       ·simp -implicitDefEqProofs only [go_sem, ↓reduceIte, Nat.reduceEqDiff, g64]
        omega
     ·have hcc2 : ¬ (m : Int) < ops.length := by omega
      rw [List.take_of_length_le (by omega)] at g15 g16
      simp -implicitDefEqProofs only [go_sem, ↓reduceIte, Nat.reduceEqDiff, Nat.reduceLT, Nat.reduceLeDiff, Nat.reduceAdd, Nat.reduceMul, Nat.reduceSub, reduceCtorEq, Nat.reduceMod, Nat.reduceBEq, Int.reduceBEq, Int.reduceBNe, Int.reduceToNat, hcc2, g63, g64]
      refine hQ2 _ _ _ ?_
      by_cases hp : (24 : Int) < planN t.list ops
      ·rw [if_pos hp] at hK
       simp -implicitDefEqProofs only [go_sem, ↓reduceIte, Nat.reduceEqDiff, Nat.reduceLT, Nat.reduceLeDiff, Nat.reduceAdd, Nat.reduceMul, Nat.reduceSub, reduceCtorEq, Nat.reduceMod, Nat.reduceBEq, Int.reduceBEq, Int.reduceBNe, Int.reduceToNat, g16, hp]
       exact ⟨S2, fun _ _ h => h, hK⟩
      ·rw [if_neg hp] at hK
       simp -implicitDefEqProofs only [go_sem, ↓reduceIte, Nat.reduceEqDiff, Nat.reduceLT, Nat.reduceLeDiff, Nat.reduceAdd, Nat.reduceMul, Nat.reduceSub, reduceCtorEq, Nat.reduceMod, Nat.reduceBEq, Int.reduceBEq, Int.reduceBNe, Int.reduceToNat, g15, g16, hp]
       exact ⟨S2, fun _ _ h => h, hK⟩
 ·rw [if_neg hc] at hK
  have d1 : (checkF conds ops != 0) = true := by simp [hc]
  simp -implicitDefEqProofs only [go_sem, ↓reduceIte, Nat.reduceEqDiff, Nat.reduceLT, Nat.reduceLeDiff, Nat.reduceAdd, Nat.reduceMul, Nat.reduceSub, reduceCtorEq, Nat.reduceMod, Nat.reduceBEq, Int.reduceBEq, Int.reduceBNe, Int.reduceToNat, d1]
  exact ⟨S, fun _ _ h => h, hK⟩

def doF (L : List Pr) (pos : Int) (conds ops : List KO) : List Pr := if (planF L pos conds ops).2 = 0 then takeF L (planF L pos conds ops).1 else L
theorem planF_len (L : List Pr) (pos : Int) (conds ops : List KO) : (planF L pos conds ops).1.length ≤ 6 := by
 unfold planF
 split
 ·rename_i hc
  have := checkF_len hc
  split
  ·split
   ·simp
   ·have := planE_len L pos ops
    dsimp only
    omega
  ·simp
 ·simp
end Go.Proofs.YtdioedabjaaboaaGreat.V
