/- Views: some views: a view more; what events tell. -/
import Derived.Test.YtdioedabjaaboaaGreatXM
set_option linter.unusedVariables false
set_option linter.unusedSimpArgs false
namespace Go.Proofs.YtdioedabjaaboaaGreat.V
open Go Go.VL

def Sub' (S S' : Store) : Prop := ∀ i x, S i = some x → S' i = some x
theorem cloneT_spec (T : WT) (hT : T.length ≤ 1000000) (S : Store) : PRet Tryz.prog 90 [.sl .no 5 (encTs T)] S (.sl .tail 5 (encTs T)) := by
 intro K hK
 refine pcalls_of (C := C) (fun d => d == 2) (fun _ => false) Tryz.func90 rfl rfl (by simp [Tryz.f90]) ?_
 have hap : (T.length) * 64 ≤ 140737488355328 ∧ T.length ≤ 140737488355328 := by omega
 simp -implicitDefEqProofs only [go_sem, ↓reduceIte, Nat.reduceEqDiff, Nat.reduceLT, Nat.reduceLeDiff, Nat.reduceAdd, Nat.reduceMul, Nat.reduceSub, reduceCtorEq, Nat.reduceMod, Nat.reduceBEq, Int.reduceBEq, Int.reduceBNe, Int.reduceToNat, Tryz.f90]
 intro b hb
 cases b
 ·simp -implicitDefEqProofs only [go_sem, ↓reduceIte, Nat.reduceEqDiff, Nat.reduceLT, Nat.reduceLeDiff, Nat.reduceAdd, Nat.reduceMul, Nat.reduceSub, reduceCtorEq, Nat.reduceMod, Nat.reduceBEq, Int.reduceBEq, Int.reduceBNe, Int.reduceToNat, List.length_nil, Nat.zero_add, hap, List.nil_append]
  exact ⟨S, fun _ _ h => h, hK⟩
 ·simp -implicitDefEqProofs only [go_sem, ↓reduceIte, Nat.reduceEqDiff, Nat.reduceLT, Nat.reduceLeDiff, Nat.reduceAdd, Nat.reduceMul, Nat.reduceSub, reduceCtorEq, Nat.reduceMod, Nat.reduceBEq, Int.reduceBEq, Int.reduceBNe, Int.reduceToNat]
  have he : T = [] := by
   have := hb rfl
   cases T with
   | nil => rfl
   | cons t T => simp [encTs] at this
  subst he
  exact ⟨S, fun _ _ h => h, hK⟩
def KeepM (S S' : Store) : Prop := ∀ id cl st vs, S id = some [PV.mcon cl st vs] → S' id = some [PV.mcon cl st vs]
theorem Tab.keepM {S S' : Store} {w : Wv} {gid : Nat} {P : List Pr} {kd : ByteArray → Nat} (h : Tab S w gid P kd) (hk : KeepM S S') : Tab S' w gid P kd where
 top := by
  obtain ⟨cl, st, L, h1, h2, h3⟩ := h.top
  exact ⟨cl, st, L, h1.eq (by rw [hk _ _ _ _ h1.some, h1.some]), h2, h3⟩
 sub := fun g hg => by
  obtain ⟨h1, cl, st, kl, h2, h3⟩ := h.sub g hg
  exact ⟨h1, cl, st, kl, h2.eq (by rw [hk _ _ _ _ h2.some, h2.some]), h3⟩
 inj := h.inj
theorem keepM_set {S : Store} {vid : Nat} {c : Option (List PV)} {f : Fl} {n : Nat} {rows : List (List PV)} {b : Bool} (h : S vid = some [.sl f n rows, .bool b]) : KeepM S (S.set vid c) := fun id cl st vs hx => by
 rw [Go.VL.set_ne (fun he => by rw [he, h] at hx; injection hx with hx; injection hx with hx; cases hx), hx]
/-- Why a view can't be added. -/
def addE (w : Wv) (T : WT) (P : List Pr) : Int :=
 if vcheck w = 0 then (if whereF w.name T 0 < 0 then (if (T.length : Int) < 4 then (if fitsQ w P then 0 else 72) else 7) else 70) else vcheck w
theorem VAdd_calls {S : Store} {vid : Nat} {T : WT} {P : List Pr} (h : Vs S vid T P) (hT : T.length ≤ 1000000) (w : Wv) (hP : P.length ≤ 1000000) (hf : FitK P) (hn : (P.map Prod.fst).Nodup) (K : PV → Store → Prop)
  (hbad : ∀ S', Sub' S S' → addE w T P ≠ 0 → K (.int .i64 (addE w T P)) S')
  (hok : ∀ S' gid, (∀ id x, id ≠ vid → S id = some x → S' id = some x) → addE w T P = 0 → Vs S' vid (T ++ [(w, gid)]) P → K (.int .i64 0) S') :
  PCalls Tryz.prog 58 [.ref vid 0, .agg (encW w), .sl .no 3 (encOs (P.map kOf))] S K := by
 unfold addE at hbad hok
 refine pcalls_of (C := C) (fun _ => false) (fun _ => false) Tryz.func58 rfl rfl (by simp [Tryz.f58]) ?_
 unfold encW
 simp -implicitDefEqProofs only [go_sem, ↓reduceIte, Nat.reduceEqDiff, Nat.reduceLT, Nat.reduceLeDiff, Nat.reduceAdd, Nat.reduceMul, Nat.reduceSub, reduceCtorEq, Nat.reduceMod, Nat.reduceBEq, Int.reduceBEq, Int.reduceBNe, Int.reduceToNat, Tryz.f58]
 refine dead_spec h _ ?_
 simp -implicitDefEqProofs only [go_sem, ↓reduceIte, Nat.reduceEqDiff, Nat.reduceLT, Nat.reduceLeDiff, Nat.reduceAdd, Nat.reduceMul, Nat.reduceSub, reduceCtorEq, Nat.reduceMod, Nat.reduceBEq, Int.reduceBEq, Int.reduceBNe, Int.reduceToNat, Bool.false_eq_true]
 refine VCheck_spec w _ _ ?_
 by_cases h0 : vcheck w = 0
 ·have d0 : (vcheck w != 0) = false := by rw [h0]; rfl
  rw [if_pos h0] at hbad hok
  simp -implicitDefEqProofs only [go_sem, ↓reduceIte, Nat.reduceEqDiff, Nat.reduceLT, Nat.reduceLeDiff, Nat.reduceAdd, Nat.reduceMul, Nat.reduceSub, reduceCtorEq, Nat.reduceMod, Nat.reduceBEq, Int.reduceBEq, Int.reduceBNe, Int.reduceToNat, d0, Bool.false_eq_true]
  refine VFind_spec h hT w.name _ ?_
  by_cases h1 : whereF w.name T 0 < 0
  ·have g1 : ¬ (0 : Int) ≤ whereF w.name T 0 := by omega
   rw [if_pos h1] at hbad hok
   simp -implicitDefEqProofs only [go_sem, ↓reduceIte, Nat.reduceEqDiff, Nat.reduceLT, Nat.reduceLeDiff, Nat.reduceAdd, Nat.reduceMul, Nat.reduceSub, reduceCtorEq, Nat.reduceMod, Nat.reduceBEq, Int.reduceBEq, Int.reduceBNe, Int.reduceToNat, g1, h.at_, Bool.false_eq_true]
   by_cases h2 : (T.length : Int) < 4
   ·have g2 : ¬ (4 : Int) ≤ (T.length : Int) := by omega
    rw [if_pos h2] at hbad hok
    simp -implicitDefEqProofs only [go_sem, ↓reduceIte, Nat.reduceEqDiff, Nat.reduceLT, Nat.reduceLeDiff, Nat.reduceAdd, Nat.reduceMul, Nat.reduceSub, reduceCtorEq, Nat.reduceMod, Nat.reduceBEq, Int.reduceBEq, Int.reduceBNe, Int.reduceToNat, g2]
    refine build_calls w P hP (fun p hp => (hf p hp).2) hn _ _ ?_
    intro S' gid kd ht
    have hv' := h.keep ht.old
    unfold encT
    cases h3 : fitsQ w P
    ·rw [h3] at hbad
     simp -implicitDefEqProofs only [go_sem, ↓reduceIte, Nat.reduceEqDiff, Nat.reduceLT, Nat.reduceLeDiff, Nat.reduceAdd, Nat.reduceMul, Nat.reduceSub, reduceCtorEq, Nat.reduceMod, Nat.reduceBEq, Int.reduceBEq, Int.reduceBNe, Int.reduceToNat, Bool.false_eq_true]
     exact ⟨S', fun _ _ h => h, hbad S' ht.old (by decide)⟩
    ·rw [h3] at hok
     simp -implicitDefEqProofs only [go_sem, ↓reduceIte, Nat.reduceEqDiff, Nat.reduceLT, Nat.reduceLeDiff, Nat.reduceAdd, Nat.reduceMul, Nat.reduceSub, reduceCtorEq, Nat.reduceMod, Nat.reduceBEq, Int.reduceBEq, Int.reduceBNe, Int.reduceToNat]
     have hap : (T.length) * 64 ≤ 140737488355328 ∧ T.length ≤ 140737488355328 := by omega
     have hap2 : (T.length + 1) * 64 ≤ 140737488355328 ∧ T.length + 1 ≤ 140737488355328 := by omega
     refine vwp_tail 9 (by decide +kernel) (by decide +kernel) ?_
     dsimp only [List.take, List.drop]
     simp -implicitDefEqProofs only [go_sem, ↓reduceIte, Nat.reduceEqDiff, Nat.reduceLT, Nat.reduceLeDiff, Nat.reduceAdd, Nat.reduceMul, Nat.reduceSub, reduceCtorEq, Nat.reduceMod, Nat.reduceBEq, Int.reduceBEq, Int.reduceBNe, Int.reduceToNat, hv'.at_]
     refine q_call _ (by simp -implicitDefEqProofs only [go_sem, ↓reduceIte, Nat.reduceEqDiff]; exact cloneT_spec T hT _) (by decide) rfl ?_
     simp -implicitDefEqProofs only [go_sem, ↓reduceIte, Nat.reduceEqDiff, Nat.reduceLT, Nat.reduceLeDiff, Nat.reduceAdd, Nat.reduceMul, Nat.reduceSub, reduceCtorEq, Nat.reduceMod, Nat.reduceBEq, Int.reduceBEq, Int.reduceBNe, Int.reduceToNat, hap2, hv'.at_, psplice, encTs_one]
     refine ⟨_, fun _ _ h => h, hok _ gid ?_ rfl ⟨set_at _ _ _, ?_⟩⟩
     ·intro id x hne hx
      rw [Go.VL.set_ne hne, ht.old _ _ hx]
     ·intro t htm
      have hkm : KeepM S' (S'.set vid (some [PV.sl Fl.no 5 (encTs (T ++ [(w, gid)])), PV.bool true])) := keepM_set hv'.at_
      rcases List.mem_append.1 htm with htm | htm
      ·obtain ⟨kd1, hk1⟩ := hv'.tabs t htm
       exact ⟨kd1, hk1.keepM hkm⟩
      ·rw [List.mem_singleton] at htm
       subst htm
       exact ⟨kd, ht.tab.keepM hkm⟩
   ·have g2 : (4 : Int) ≤ (T.length : Int) := by omega
    rw [if_neg h2] at hbad
    simp -implicitDefEqProofs only [go_sem, ↓reduceIte, Nat.reduceEqDiff, Nat.reduceLT, Nat.reduceLeDiff, Nat.reduceAdd, Nat.reduceMul, Nat.reduceSub, reduceCtorEq, Nat.reduceMod, Nat.reduceBEq, Int.reduceBEq, Int.reduceBNe, Int.reduceToNat, g2]
    exact ⟨S, fun _ _ h => h, hbad S (fun _ _ h => h) (by decide)⟩
  ·have g1 : (0 : Int) ≤ whereF w.name T 0 := by omega
   rw [if_neg h1] at hbad
   simp -implicitDefEqProofs only [go_sem, ↓reduceIte, Nat.reduceEqDiff, Nat.reduceLT, Nat.reduceLeDiff, Nat.reduceAdd, Nat.reduceMul, Nat.reduceSub, reduceCtorEq, Nat.reduceMod, Nat.reduceBEq, Int.reduceBEq, Int.reduceBNe, Int.reduceToNat, g1]
   exact ⟨S, fun _ _ h => h, hbad S (fun _ _ h => h) (by decide)⟩
 ·have d0 : (vcheck w != 0) = true := by simp [h0]
  rw [if_neg h0] at hbad
  simp -implicitDefEqProofs only [go_sem, ↓reduceIte, Nat.reduceEqDiff, Nat.reduceLT, Nat.reduceLeDiff, Nat.reduceAdd, Nat.reduceMul, Nat.reduceSub, reduceCtorEq, Nat.reduceMod, Nat.reduceBEq, Int.reduceBEq, Int.reduceBNe, Int.reduceToNat, d0]
  exact ⟨S, fun _ _ h => h, hbad S (fun _ _ h => h) h0⟩
end Go.Proofs.YtdioedabjaaboaaGreat.V
