/- Views: what events tell, in all views, or in none. -/
import Derived.Test.YtdioedabjaaboaaGreatXN
set_option linter.unusedVariables false
set_option linter.unusedSimpArgs false
namespace Go.Proofs.YtdioedabjaaboaaGreat.V
open Go Go.VL

theorem NewTab.perm {S0 S : Store} {w : Wv} {gid : Nat} {P Q : List Pr} {kd : ByteArray → Nat} (h : NewTab S0 S w gid P kd) (hp : P.Perm Q) : NewTab S0 S w gid Q kd :=
 ⟨h.tab.perm hp, h.old, h.top, fun g hg => h.sub g ((perm_ne (memG_perm hp)).2 hg)⟩
/-- What an event makes of some pairs. -/
def EvOk (P : List Pr) (x : KV) (P' : List Pr) : Prop :=
 ∃ Q, x.k ∉ Q.map Prod.fst ∧ (if x.had then P.Perm ((x.k, x.old) :: Q) else P = Q) ∧ P'.Perm (if x.has then (x.k, x.now) :: Q else Q)
structure Chain (f : Nat → List Pr) (evs : List KV) : Prop where
 step : ∀ m x, evs[m]? = some x → EvOk (f m) x (f (m + 1))
 fit : ∀ x ∈ evs, x.old.size ≤ 1000000 ∧ x.now.size ≤ 1000000
def takeE (T : WT) (P : List Pr) : Int := if T.all (fun t => fitsQ t.1 P) then 0 else 72
theorem takeE_no {T : WT} {P : List Pr} {k : Nat} {t : Wv × Nat} (h : T[k]? = some t) (hf : fitsQ t.1 P = false) : takeE T P = 72 := by
 unfold takeE
 rw [if_neg]
 intro ha
 rw [List.all_eq_true] at ha
 rw [ha t (List.mem_of_getElem? h)] at hf
 cases hf
set_option maxHeartbeats 4000000 in
theorem VTake_calls {S : Store} {vid : Nat} {T : WT} (evs : List KV) (hev : evs.length ≤ 1000000) {f : Nat → List Pr} (hc : Chain f evs) (h : Vs S vid T (f 0)) (hT : T.length ≤ 1000000) (K : PV → Store → Prop)
  (hbad : ∀ S', Sub' S S' → takeE T (f evs.length) = 72 → K (.int .i64 72) S')
  (hok : ∀ S' N, (∀ id x, id ≠ vid → S id = some x → S' id = some x) → takeE T (f evs.length) = 0 → N.map Prod.fst = T.map Prod.fst → Vs S' vid N (f evs.length) → K (.int .i64 0) S') :
  PCalls Tryz.prog 25 [.ref vid 0, .sl .no 6 (encVs evs)] S K := by
 refine pcalls_of (C := C) (fun d => d == 5 || d == 50) (fun _ => false) Tryz.func25 rfl rfl (by simp [Tryz.f25]) ?_
 simp -implicitDefEqProofs only [go_sem, ↓reduceIte, Nat.reduceEqDiff, Nat.reduceLT, Nat.reduceLeDiff, Nat.reduceAdd, Nat.reduceMul, Nat.reduceSub, reduceCtorEq, Nat.reduceMod, Nat.reduceBEq, Int.reduceBEq, Int.reduceBNe, Int.reduceToNat, Tryz.f25]
 refine dead_spec h _ ?_
 simp -implicitDefEqProofs only [go_sem, ↓reduceIte, Nat.reduceEqDiff, Nat.reduceLT, Nat.reduceLeDiff, Nat.reduceAdd, Nat.reduceMul, Nat.reduceSub, reduceCtorEq, Nat.reduceMod, Nat.reduceBEq, Int.reduceBEq, Int.reduceBNe, Int.reduceToNat, Bool.false_eq_true, h.at_]
 refine vloop (fun e S' => Sub' S S' ∧ ∃ (k : Nat) (N : WT), k ≤ T.length ∧ N.map Prod.fst = (T.take k).map Prod.fst ∧ (∀ t ∈ N, ∃ kd, Tab S' t.1 t.2 (f evs.length) kd) ∧ (∀ t ∈ T.take k, fitsQ t.1 (f evs.length) = true) ∧
  e 0 = .ref vid 0 ∧ e 1 = .sl .no 6 (encVs evs) ∧ e 5 = .sl .tail 5 (encTs N) ∧ e 16 = .int .i64 T.length ∧ e 17 = .int .i64 k) (fun e _ => T.length - iv (e 17)) ?_ ?_
 ·exact ⟨fun _ _ h => h, 0, [], Nat.zero_le _, rfl, fun t ht => (by cases ht), fun t ht => (by cases ht), rfl, rfl, rfl, rfl, rfl⟩
 ·rintro J M Q' hJ hM hQ e S' ⟨hsub, k, N, hk, hN, hNt, hfit, e0, e1, e5, e16, e17⟩
  have hv : Vs S' vid T (f 0) := h.keep hsub
  by_cases hlt : k < T.length
  ·obtain ⟨t, ht⟩ : ∃ t, T[k]? = some t := ⟨T[k], List.getElem?_eq_getElem hlt⟩
   obtain ⟨kd, hkd⟩ := hv.tabs t (List.mem_of_getElem? ht)
   have hlti : (k : Int) < (T.length : Int) := by omega
   have h0 : (0 : Int) ≤ (k : Int) ∧ (k : Int) < (T.length : Int) := by omega
   have hw : IntKind.i64.wrap ((k : Int) + 1) = ((k + 1 : Nat) : Int) := wrap64 (by omega) (by omega)
   have hNlen : N.length = k := by
    have := congrArg List.length hN
    rw [List.length_map, List.length_map, List.length_take] at this
    omega
   simp -implicitDefEqProofs only [go_sem, ↓reduceIte, Nat.reduceEqDiff, Nat.reduceLT, Nat.reduceLeDiff, Nat.reduceAdd, Nat.reduceMul, Nat.reduceSub, reduceCtorEq, Nat.reduceMod, Nat.reduceBEq, Int.reduceBEq, Int.reduceBNe, Int.reduceToNat, e0, e1, e5, e16, e17, hlti, hv.at_, h0, Int.toNat_natCast, getD_encTs ht]
   refine clone_calls hkd _ ?_
   intro S1 gid kd1 hn1
   unfold encT
   simp -implicitDefEqProofs only [go_sem, ↓reduceIte, Nat.reduceEqDiff, Nat.reduceLT, Nat.reduceLeDiff, Nat.reduceAdd, Nat.reduceMul, Nat.reduceSub, reduceCtorEq, Nat.reduceMod, Nat.reduceBEq, Int.reduceBEq, Int.reduceBNe, Int.reduceToNat, e0, e1, e5, e16, e17]
   refine vloop (fun e S2 => ∃ (m : Nat) (kd2 : ByteArray → Nat), m ≤ evs.length ∧ NewTab S' S2 t.1 gid (f m) kd2 ∧ e 0 = .ref vid 0 ∧ e 1 = .sl .no 6 (encVs evs) ∧ e 5 = .sl .tail 5 (encTs N) ∧ e 16 = .int .i64 T.length ∧ e 17 = .int .i64 k ∧
    e 7 = .ip (encT t.1 gid) 0 ∧ e 27 = .sl .no 6 (encVs evs) ∧ e 28 = .int .i64 evs.length ∧ e 29 = .int .i64 m) (fun e _ => evs.length - iv (e 29)) ?_ ?_
   ·exact ⟨0, kd1, Nat.zero_le _, hn1, by simp -implicitDefEqProofs only [go_sem, ↓reduceIte, Nat.reduceEqDiff, e0], by simp -implicitDefEqProofs only [go_sem, ↓reduceIte, Nat.reduceEqDiff, e1], by simp -implicitDefEqProofs only [go_sem, ↓reduceIte, Nat.reduceEqDiff, e5], by simp -implicitDefEqProofs only [go_sem, ↓reduceIte, Nat.reduceEqDiff, e16], by simp -implicitDefEqProofs only [go_sem, ↓reduceIte, Nat.reduceEqDiff, e17], by unfold encT; simp -implicitDefEqProofs only [go_sem, ↓reduceIte, Nat.reduceEqDiff, Nat.reduceLT, Nat.reduceLeDiff, Nat.reduceAdd, Nat.reduceMul, Nat.reduceSub, reduceCtorEq, Nat.reduceMod, Nat.reduceBEq, Int.reduceBEq, Int.reduceBNe, Int.reduceToNat], by simp -implicitDefEqProofs only [go_sem, ↓reduceIte, Nat.reduceEqDiff], by simp -implicitDefEqProofs only [go_sem, ↓reduceIte, Nat.reduceEqDiff], by simp -implicitDefEqProofs only [go_sem, ↓reduceIte, Nat.reduceEqDiff]⟩
   ·rintro J2 M2 Q2 hJ2 hM2 hQ2 e' S2 ⟨m, kd2, hm, hn2, f0, f1, f5, f16, f17, f7, f27, f28, f29⟩
    by_cases hlt2 : m < evs.length
    ·obtain ⟨x, hx⟩ : ∃ x, evs[m]? = some x := ⟨evs[m], List.getElem?_eq_getElem hlt2⟩
     have hmi : (m : Int) < (evs.length : Int) := by omega
     have hm0 : (0 : Int) ≤ (m : Int) ∧ (m : Int) < (evs.length : Int) := by omega
     have hw2 : IntKind.i64.wrap ((m : Int) + 1) = ((m + 1 : Nat) : Int) := wrap64 (by omega) (by omega)
     obtain ⟨Q, q1, q2, q3⟩ := hc.step m x hx
     obtain ⟨z1, z2⟩ := hc.fit x (List.mem_of_getElem? hx)
     unfold encT at f7
     cases ch : x.had <;> cases cs : x.has
     ·rw [ch] at q2
      rw [cs] at q3
      simp only [Bool.false_eq_true, if_false, if_true] at q2 q3
      simp -implicitDefEqProofs only [go_sem, ↓reduceIte, Nat.reduceEqDiff, Nat.reduceLT, Nat.reduceLeDiff, Nat.reduceAdd, Nat.reduceMul, Nat.reduceSub, reduceCtorEq, Nat.reduceMod, Nat.reduceBEq, Int.reduceBEq, Int.reduceBNe, Int.reduceToNat, f0, f1, f5, f7, f16, f17, f27, f28, f29, hmi, hm0, Int.toNat_natCast, getD_encVs hx, ch, cs, hw2]
      refine vnext hJ2 hM2 S2 (fun _ _ h => h) ⟨m + 1, kd2, hlt2, (by rw [← q2] at q3; exact hn2.perm q3.symm), ?_, ?_, ?_, ?_, ?_, ?_, ?_, ?_, ?_⟩ ?_
      ·simp -implicitDefEqProofs only [go_sem, ↓reduceIte, Nat.reduceEqDiff, f0]
      ·simp -implicitDefEqProofs only [go_sem, ↓reduceIte, Nat.reduceEqDiff, f1]
      ·simp -implicitDefEqProofs only [go_sem, ↓reduceIte, Nat.reduceEqDiff, f5]
      ·simp -implicitDefEqProofs only [go_sem, ↓reduceIte, Nat.reduceEqDiff, f16]
      ·simp -implicitDefEqProofs only [go_sem, ↓reduceIte, Nat.reduceEqDiff, f17]
      ·unfold encT; simp -implicitDefEqProofs only [go_sem, ↓reduceIte, Nat.reduceEqDiff, Nat.reduceLT, Nat.reduceLeDiff, Nat.reduceAdd, Nat.reduceMul, Nat.reduceSub, reduceCtorEq, Nat.reduceMod, Nat.reduceBEq, Int.reduceBEq, Int.reduceBNe, Int.reduceToNat, f7]
      ·simp -implicitDefEqProofs only [go_sem, ↓reduceIte, Nat.reduceEqDiff, f27]
      ·simp -implicitDefEqProofs only [go_sem, ↓reduceIte, Nat.reduceEqDiff, f28]
      ·simp -implicitDefEqProofs only [go_sem, ↓reduceIte, Nat.reduceEqDiff]
      ·simp -implicitDefEqProofs only [go_sem, ↓reduceIte, Nat.reduceEqDiff, f29, Int.toNat_natCast]
       omega
     ·rw [ch] at q2
      rw [cs] at q3
      simp only [Bool.false_eq_true, if_false, if_true] at q2 q3
      rw [q2] at hn2
      simp -implicitDefEqProofs only [go_sem, ↓reduceIte, Nat.reduceEqDiff, Nat.reduceLT, Nat.reduceLeDiff, Nat.reduceAdd, Nat.reduceMul, Nat.reduceSub, reduceCtorEq, Nat.reduceMod, Nat.reduceBEq, Int.reduceBEq, Int.reduceBNe, Int.reduceToNat, f0, f1, f5, f7, f16, f17, f27, f28, f29, hmi, hm0, Int.toNat_natCast, getD_encVs hx, ch, cs, hw2]
      refine hn2.add x.k x.now q1 z2 _ ?_
      intro S3 kd3 hn3
      simp -implicitDefEqProofs only [go_sem, ↓reduceIte, Nat.reduceEqDiff, Nat.reduceLT, Nat.reduceLeDiff, Nat.reduceAdd, Nat.reduceMul, Nat.reduceSub, reduceCtorEq, Nat.reduceMod, Nat.reduceBEq, Int.reduceBEq, Int.reduceBNe, Int.reduceToNat, f29, hw2]
      refine vnext hJ2 hM2 S3 (fun _ _ h => h) ⟨m + 1, kd3, hlt2, hn3.perm q3.symm, ?_, ?_, ?_, ?_, ?_, ?_, ?_, ?_, ?_⟩ ?_
      ·simp -implicitDefEqProofs only [go_sem, ↓reduceIte, Nat.reduceEqDiff, f0]
      ·simp -implicitDefEqProofs only [go_sem, ↓reduceIte, Nat.reduceEqDiff, f1]
      ·simp -implicitDefEqProofs only [go_sem, ↓reduceIte, Nat.reduceEqDiff, f5]
      ·simp -implicitDefEqProofs only [go_sem, ↓reduceIte, Nat.reduceEqDiff, f16]
      ·simp -implicitDefEqProofs only [go_sem, ↓reduceIte, Nat.reduceEqDiff, f17]
      ·unfold encT; simp -implicitDefEqProofs only [go_sem, ↓reduceIte, Nat.reduceEqDiff, Nat.reduceLT, Nat.reduceLeDiff, Nat.reduceAdd, Nat.reduceMul, Nat.reduceSub, reduceCtorEq, Nat.reduceMod, Nat.reduceBEq, Int.reduceBEq, Int.reduceBNe, Int.reduceToNat, f7]
      ·simp -implicitDefEqProofs only [go_sem, ↓reduceIte, Nat.reduceEqDiff, f27]
      ·simp -implicitDefEqProofs only [go_sem, ↓reduceIte, Nat.reduceEqDiff, f28]
      ·simp -implicitDefEqProofs only [go_sem, ↓reduceIte, Nat.reduceEqDiff]
      ·simp -implicitDefEqProofs only [go_sem, ↓reduceIte, Nat.reduceEqDiff, f29, Int.toNat_natCast]
       omega
     ·rw [ch] at q2
      rw [cs] at q3
      simp only [Bool.false_eq_true, if_false, if_true] at q2 q3
      simp -implicitDefEqProofs only [go_sem, ↓reduceIte, Nat.reduceEqDiff, Nat.reduceLT, Nat.reduceLeDiff, Nat.reduceAdd, Nat.reduceMul, Nat.reduceSub, reduceCtorEq, Nat.reduceMod, Nat.reduceBEq, Int.reduceBEq, Int.reduceBNe, Int.reduceToNat, f0, f1, f5, f7, f16, f17, f27, f28, f29, hmi, hm0, Int.toNat_natCast, getD_encVs hx, ch, cs, hw2]
      refine NewTab.del x.k x.old (hn2.perm q2) q1 z1 _ ?_
      intro S3 kd3 hn3
      simp -implicitDefEqProofs only [go_sem, ↓reduceIte, Nat.reduceEqDiff, Nat.reduceLT, Nat.reduceLeDiff, Nat.reduceAdd, Nat.reduceMul, Nat.reduceSub, reduceCtorEq, Nat.reduceMod, Nat.reduceBEq, Int.reduceBEq, Int.reduceBNe, Int.reduceToNat, f29, hw2, cs]
      refine vnext hJ2 hM2 S3 (fun _ _ h => h) ⟨m + 1, kd3, hlt2, hn3.perm q3.symm, ?_, ?_, ?_, ?_, ?_, ?_, ?_, ?_, ?_⟩ ?_
      ·simp -implicitDefEqProofs only [go_sem, ↓reduceIte, Nat.reduceEqDiff, f0]
      ·simp -implicitDefEqProofs only [go_sem, ↓reduceIte, Nat.reduceEqDiff, f1]
      ·simp -implicitDefEqProofs only [go_sem, ↓reduceIte, Nat.reduceEqDiff, f5]
      ·simp -implicitDefEqProofs only [go_sem, ↓reduceIte, Nat.reduceEqDiff, f16]
      ·simp -implicitDefEqProofs only [go_sem, ↓reduceIte, Nat.reduceEqDiff, f17]
      ·unfold encT; simp -implicitDefEqProofs only [go_sem, ↓reduceIte, Nat.reduceEqDiff, Nat.reduceLT, Nat.reduceLeDiff, Nat.reduceAdd, Nat.reduceMul, Nat.reduceSub, reduceCtorEq, Nat.reduceMod, Nat.reduceBEq, Int.reduceBEq, Int.reduceBNe, Int.reduceToNat, f7]
      ·simp -implicitDefEqProofs only [go_sem, ↓reduceIte, Nat.reduceEqDiff, f27]
      ·simp -implicitDefEqProofs only [go_sem, ↓reduceIte, Nat.reduceEqDiff, f28]
      ·simp -implicitDefEqProofs only [go_sem, ↓reduceIte, Nat.reduceEqDiff]
      ·simp -implicitDefEqProofs only [go_sem, ↓reduceIte, Nat.reduceEqDiff, f29, Int.toNat_natCast]
       omega
     ·rw [ch] at q2
      rw [cs] at q3
      simp only [Bool.false_eq_true, if_false, if_true] at q2 q3
      simp -implicitDefEqProofs only [go_sem, ↓reduceIte, Nat.reduceEqDiff, Nat.reduceLT, Nat.reduceLeDiff, Nat.reduceAdd, Nat.reduceMul, Nat.reduceSub, reduceCtorEq, Nat.reduceMod, Nat.reduceBEq, Int.reduceBEq, Int.reduceBNe, Int.reduceToNat, f0, f1, f5, f7, f16, f17, f27, f28, f29, hmi, hm0, Int.toNat_natCast, getD_encVs hx, ch, cs, hw2]
      refine NewTab.del x.k x.old (hn2.perm q2) q1 z1 _ ?_
      intro S3 kd3 hn3
      simp -implicitDefEqProofs only [go_sem, ↓reduceIte, Nat.reduceEqDiff, Nat.reduceLT, Nat.reduceLeDiff, Nat.reduceAdd, Nat.reduceMul, Nat.reduceSub, reduceCtorEq, Nat.reduceMod, Nat.reduceBEq, Int.reduceBEq, Int.reduceBNe, Int.reduceToNat, f7, cs]
      refine hn3.add x.k x.now q1 z2 _ ?_
      intro S4 kd4 hn4
      simp -implicitDefEqProofs only [go_sem, ↓reduceIte, Nat.reduceEqDiff, Nat.reduceLT, Nat.reduceLeDiff, Nat.reduceAdd, Nat.reduceMul, Nat.reduceSub, reduceCtorEq, Nat.reduceMod, Nat.reduceBEq, Int.reduceBEq, Int.reduceBNe, Int.reduceToNat, f29, hw2]
      refine vnext hJ2 hM2 S4 (fun _ _ h => h) ⟨m + 1, kd4, hlt2, hn4.perm q3.symm, ?_, ?_, ?_, ?_, ?_, ?_, ?_, ?_, ?_⟩ ?_
      ·simp -implicitDefEqProofs only [go_sem, ↓reduceIte, Nat.reduceEqDiff, f0]
      ·simp -implicitDefEqProofs only [go_sem, ↓reduceIte, Nat.reduceEqDiff, f1]
      ·simp -implicitDefEqProofs only [go_sem, ↓reduceIte, Nat.reduceEqDiff, f5]
      ·simp -implicitDefEqProofs only [go_sem, ↓reduceIte, Nat.reduceEqDiff, f16]
      ·simp -implicitDefEqProofs only [go_sem, ↓reduceIte, Nat.reduceEqDiff, f17]
      ·unfold encT; simp -implicitDefEqProofs only [go_sem, ↓reduceIte, Nat.reduceEqDiff, Nat.reduceLT, Nat.reduceLeDiff, Nat.reduceAdd, Nat.reduceMul, Nat.reduceSub, reduceCtorEq, Nat.reduceMod, Nat.reduceBEq, Int.reduceBEq, Int.reduceBNe, Int.reduceToNat, f7]
      ·simp -implicitDefEqProofs only [go_sem, ↓reduceIte, Nat.reduceEqDiff, f27]
      ·simp -implicitDefEqProofs only [go_sem, ↓reduceIte, Nat.reduceEqDiff, f28]
      ·simp -implicitDefEqProofs only [go_sem, ↓reduceIte, Nat.reduceEqDiff]
      ·simp -implicitDefEqProofs only [go_sem, ↓reduceIte, Nat.reduceEqDiff, f29, Int.toNat_natCast]
       omega
    ·have hnl2 : ¬ (m : Int) < (evs.length : Int) := by omega
     have hme : m = evs.length := by omega
     rw [hme] at hn2
     unfold encT at f7
     simp -implicitDefEqProofs only [go_sem, ↓reduceIte, Nat.reduceEqDiff, Nat.reduceLT, Nat.reduceLeDiff, Nat.reduceAdd, Nat.reduceMul, Nat.reduceSub, reduceCtorEq, Nat.reduceMod, Nat.reduceBEq, Int.reduceBEq, Int.reduceBNe, Int.reduceToNat, f28, f29, hnl2]
     refine hQ2 _ _ _ ?_
     simp -implicitDefEqProofs only [go_sem, ↓reduceIte, Nat.reduceEqDiff, Nat.reduceLT, Nat.reduceLeDiff, Nat.reduceAdd, Nat.reduceMul, Nat.reduceSub, reduceCtorEq, Nat.reduceMod, Nat.reduceBEq, Int.reduceBEq, Int.reduceBNe, Int.reduceToNat, f7]
     refine fits_spec hn2.tab _ ?_
     cases hfi : fitsQ t.1 (f evs.length)
     ·simp -implicitDefEqProofs only [go_sem, ↓reduceIte, Nat.reduceEqDiff, Nat.reduceLT, Nat.reduceLeDiff, Nat.reduceAdd, Nat.reduceMul, Nat.reduceSub, reduceCtorEq, Nat.reduceMod, Nat.reduceBEq, Int.reduceBEq, Int.reduceBNe, Int.reduceToNat, Bool.not_false]
      refine hQ _ _ _ ?_
      simp -implicitDefEqProofs only [go_sem, ↓reduceIte, Nat.reduceEqDiff, Nat.reduceLT, Nat.reduceLeDiff, Nat.reduceAdd, Nat.reduceMul, Nat.reduceSub, reduceCtorEq, Nat.reduceMod, Nat.reduceBEq, Int.reduceBEq, Int.reduceBNe, Int.reduceToNat]
      exact ⟨S2, fun _ _ h => h, hbad S2 (fun id x hx => hn2.old _ _ (hsub _ _ hx)) (takeE_no ht hfi)⟩
     ·have hap : (N.length + 1) * 64 ≤ 140737488355328 ∧ N.length + 1 ≤ 140737488355328 := by omega
      simp -implicitDefEqProofs only [go_sem, ↓reduceIte, Nat.reduceEqDiff, Nat.reduceLT, Nat.reduceLeDiff, Nat.reduceAdd, Nat.reduceMul, Nat.reduceSub, reduceCtorEq, Nat.reduceMod, Nat.reduceBEq, Int.reduceBEq, Int.reduceBNe, Int.reduceToNat, Bool.not_true, Bool.false_eq_true, f5, f7, f16, f17, hap, hw]
      refine vnext hJ hM S2 (fun _ _ h => h) ⟨fun id x hx => hn2.old _ _ (hsub _ _ hx), k + 1, N ++ [(t.1, gid)], hlt, ?_, ?_, ?_, ?_, ?_, ?_, ?_, ?_⟩ ?_
      ·rw [List.take_add_one, ht, List.map_append, List.map_append, hN]; rfl
      ·intro u hu
       rcases List.mem_append.1 hu with hu | hu
       ·obtain ⟨kdu, hku⟩ := hNt u hu
        exact ⟨kdu, hku.keep hn2.old⟩
       ·rw [List.mem_singleton] at hu
        subst hu
        exact ⟨kd2, hn2.tab⟩
      ·intro u hu
       rw [List.take_add_one, ht] at hu
       rcases List.mem_append.1 hu with hu | hu
       ·exact hfit u hu
       ·simp only [Option.toList_some, List.mem_singleton] at hu
        subst hu
        exact hfi
      ·simp -implicitDefEqProofs only [go_sem, ↓reduceIte, Nat.reduceEqDiff, f0]
      ·simp -implicitDefEqProofs only [go_sem, ↓reduceIte, Nat.reduceEqDiff, f1]
      ·simp -implicitDefEqProofs only [go_sem, ↓reduceIte, Nat.reduceEqDiff]; rw [encTs_one]
      ·simp -implicitDefEqProofs only [go_sem, ↓reduceIte, Nat.reduceEqDiff, f16]
      ·simp -implicitDefEqProofs only [go_sem, ↓reduceIte, Nat.reduceEqDiff]
      ·simp -implicitDefEqProofs only [go_sem, ↓reduceIte, Nat.reduceEqDiff, e17, Int.toNat_natCast]
       omega
  ·have hnl : ¬ (k : Int) < (T.length : Int) := by omega
   rw [List.take_of_length_le (by omega)] at hN hfit
   have hte : takeE T (f evs.length) = 0 := by
    unfold takeE
    rw [if_pos (List.all_eq_true.2 hfit)]
   simp -implicitDefEqProofs only [go_sem, ↓reduceIte, Nat.reduceEqDiff, Nat.reduceLT, Nat.reduceLeDiff, Nat.reduceAdd, Nat.reduceMul, Nat.reduceSub, reduceCtorEq, Nat.reduceMod, Nat.reduceBEq, Int.reduceBEq, Int.reduceBNe, Int.reduceToNat, e16, e17, hnl]
   refine hQ _ _ _ ?_
   simp -implicitDefEqProofs only [go_sem, ↓reduceIte, Nat.reduceEqDiff, Nat.reduceLT, Nat.reduceLeDiff, Nat.reduceAdd, Nat.reduceMul, Nat.reduceSub, reduceCtorEq, Nat.reduceMod, Nat.reduceBEq, Int.reduceBEq, Int.reduceBNe, Int.reduceToNat, e0, e5, hv.at_, psplice]
   refine ⟨_, fun _ _ h => h, hok _ N ?_ hte hN ⟨set_at _ _ _, ?_⟩⟩
   ·intro id x hne hx
    rw [Go.VL.set_ne hne, hsub _ _ hx]
   ·intro t ht
    obtain ⟨kd, hkd⟩ := hNt t ht
    exact ⟨kd, hkd.keepM (keepM_set hv.at_)⟩
end Go.Proofs.YtdioedabjaaboaaGreat.V
