/- Views: what their values no longer bear is refused, and leaves all as it was. -/
import Derived.Test.YtdioedabjaaboaaGreatYR
set_option linter.unusedVariables false
set_option linter.unusedSimpArgs false
namespace Go.Proofs.YtdioedabjaaboaaGreat.V
open Go Go.VL

def wZ : Wv := ⟨⟨#[]⟩, 0, ⟨#[]⟩, ⟨#[]⟩⟩
def wA : Wv := ⟨⟨#[105]⟩, 1, ⟨#[97]⟩, ⟨#[]⟩⟩
theorem wS_fit : FitW wS := by unfold FitW; decide
theorem wA_fit : FitW wA := by unfold FitW; decide
set_option maxHeartbeats 8000000 in
theorem over_law (l : List DV) (hl : l.length ≤ 1599289640354) (hw : ∀ d ∈ l, FitW d.view) (all : List KO) (S : Store) (K : PV → Store → Prop) (hK : ∀ S', K (.bool true) S') : PCalls Tryz.prog 6 [.sl .no 6 (encDvs l), .sl .no 3 (encOs all)] S K := by
 refine pcalls_of (C := C) (fun _ => false) (fun d => d == 69) Tryz.func6 rfl rfl (by simp [Tryz.f6]) ?_
 have hap : (1 + l.length) * 88 ≤ 140737488355328 ∧ 1 + l.length ≤ 140737488355328 := by omega
 simp -implicitDefEqProofs only [go_sem, ↓reduceIte, Nat.reduceEqDiff, Nat.reduceLT, Nat.reduceLeDiff, Nat.reduceAdd, Nat.reduceMul, Nat.reduceSub, reduceCtorEq, Nat.reduceMod, Nat.reduceBEq, Int.reduceBEq, Int.reduceBNe, Int.reduceToNat, Tryz.f6, List.length_cons, List.length_nil, Nat.zero_add, hap]
 refine shortV_spec (⟨0, all, wZ⟩ :: l) _ _ ?_
 cases hs : shortV (⟨0, all, wZ⟩ :: l)
 ·simp -implicitDefEqProofs only [go_sem, ↓reduceIte, Nat.reduceEqDiff, Nat.reduceLT, Nat.reduceLeDiff, Nat.reduceAdd, Nat.reduceMul, Nat.reduceSub, reduceCtorEq, Nat.reduceMod, Nat.reduceBEq, Int.reduceBEq, Int.reduceBNe, Int.reduceToNat, Bool.not_false]
  refine aw_calls _ _ ?_
  intro S'
  simp -implicitDefEqProofs only [go_sem, ↓reduceIte, Nat.reduceEqDiff, Nat.reduceLT, Nat.reduceLeDiff, Nat.reduceAdd, Nat.reduceMul, Nat.reduceSub, reduceCtorEq, Nat.reduceMod, Nat.reduceBEq, Int.reduceBEq, Int.reduceBNe, Int.reduceToNat]
  exact ⟨S', fun _ _ h => h, hK S'⟩
 obtain ⟨hs1, hs2⟩ := shortV_fit hs
 simp only [List.length_cons] at hs1
 have hO : ∀ d ∈ l, FitO d.ops := fun d hd => (weighV_all (hs2 d (List.mem_cons_of_mem _ hd))).2
 have hOa : FitO all := (weighV_all (hs2 _ List.mem_cons_self)).2
 simp -implicitDefEqProofs only [go_sem, ↓reduceIte, Nat.reduceEqDiff, Nat.reduceLT, Nat.reduceLeDiff, Nat.reduceAdd, Nat.reduceMul, Nat.reduceSub, reduceCtorEq, Nat.reduceMod, Nat.reduceBEq, Int.reduceBEq, Int.reduceBNe, Int.reduceToNat, Bool.not_true, Bool.false_eq_true]
 refine begun_calls S _ ?_
 intro S1 mid vid hsub hmid hvid h1
 unfold encPair
 simp -implicitDefEqProofs only [go_sem, ↓reduceIte, Nat.reduceEqDiff, Nat.reduceLT, Nat.reduceLeDiff, Nat.reduceAdd, Nat.reduceMul, Nat.reduceSub, reduceCtorEq, Nat.reduceMod, Nat.reduceBEq, Int.reduceBEq, Int.reduceBNe, Int.reduceToNat]
 refine vwp_mix (n := 4) (fun k => k == 3) (fun _ => false) [0, 1, 2, 3] (by decide +kernel) ?_
 simp -implicitDefEqProofs only [go_sem, ↓reduceIte, Nat.reduceEqDiff, Nat.reduceLT, Nat.reduceLeDiff, Nat.reduceAdd, Nat.reduceMul, Nat.reduceSub, reduceCtorEq, Nat.reduceMod, Nat.reduceBEq, Int.reduceBEq, Int.reduceBNe, Int.reduceToNat]
 refine q_call _ (by simp -implicitDefEqProofs only [go_sem, ↓reduceIte, Nat.reduceEqDiff]; exact vsum_spec _) (by decide) rfl ?_
 unfold encW
 simp -implicitDefEqProofs only [go_sem, ↓reduceIte, Nat.reduceEqDiff, Nat.reduceLT, Nat.reduceLeDiff, Nat.reduceAdd, Nat.reduceMul, Nat.reduceSub, reduceCtorEq, Nat.reduceMod, Nat.reduceBEq, Int.reduceBEq, Int.reduceBNe, Int.reduceToNat]
 have hg1 : GoodW (([] : WT).map Prod.fst) [] := ⟨fun w hw => (by cases hw), List.nodup_nil⟩
 refine does_all h1 (by decide) ⟨4, [], wS⟩ (fun o ho => (by cases ho)) (by decide) _ ?_
 intro S2 T2 t2 _ hT2 hp2
 have hg2 := hg1.step ⟨4, [], wS⟩ wS_fit
 have hl2 := stepW_len (ws := ([] : WT).map Prod.fst) (by decide) [] ⟨4, [], wS⟩
 have hn2 := stepL_len (ws := ([] : WT).map Prod.fst) (L := []) List.Pairwise.nil ⟨4, [], wS⟩
 have o4 : opV 4 = 4 := aw_o4
 have hL2 : stepL (([] : WT).map Prod.fst) [] ⟨4, [], wS⟩ = [] := by unfold stepL; rw [if_neg (by show ¬ opV 4 < 4; rw [o4]; decide)]
 rw [hL2] at hp2 hg2
 rw [← hT2] at hg2 hl2
 rw [List.length_map] at hl2
 simp -implicitDefEqProofs only [go_sem, ↓reduceIte, Nat.reduceEqDiff, Nat.reduceLT, Nat.reduceLeDiff, Nat.reduceAdd, Nat.reduceMul, Nat.reduceSub, reduceCtorEq, Nat.reduceMod, Nat.reduceBEq, Int.reduceBEq, Int.reduceBNe, Int.reduceToNat]
 refine does_all hp2 hl2 ⟨4, [], wA⟩ (fun o ho => (by cases ho)) (by decide) _ ?_
 intro S3 T3 t3 _ hT3 hp3
 have hg3 := hg2.step ⟨4, [], wA⟩ wA_fit
 have hl3 := stepW_len (ws := T2.map Prod.fst) (by rw [List.length_map]; exact hl2) [] ⟨4, [], wA⟩
 have hL3 : stepL (T2.map Prod.fst) [] ⟨4, [], wA⟩ = [] := by unfold stepL; rw [if_neg (by show ¬ opV 4 < 4; rw [o4]; decide)]
 rw [hL3] at hp3 hg3
 rw [← hT3] at hg3 hl3
 rw [List.length_map] at hl3
 simp -implicitDefEqProofs only [go_sem, ↓reduceIte, Nat.reduceEqDiff, Nat.reduceLT, Nat.reduceLeDiff, Nat.reduceAdd, Nat.reduceMul, Nat.reduceSub, reduceCtorEq, Nat.reduceMod, Nat.reduceBEq, Int.reduceBEq, Int.reduceBNe, Int.reduceToNat]
 refine vloop (fun e S' => ∃ (k : Nat) (L : List Pr) (T : WT) (t : V.T), k ≤ l.length ∧ Ps S' mid vid L T t ∧ GoodW (T.map Prod.fst) L ∧ T.length ≤ 4 ∧ L.length ≤ 6 * k ∧
  e 1 = .sl .no 3 (encOs all) ∧ e 5 = .ip [.ref mid 0, .ref vid 0] 0 ∧ e 30 = .sl .no 6 (encDvs l) ∧ e 31 = .int .i64 l.length ∧ e 32 = .int .i64 k) (fun e _ => l.length - iv (e 32)) ?_ ?_
 ·exact ⟨0, [], T3, t3, Nat.zero_le _, hp3, hg3, hl3, Nat.zero_le _, by simp -implicitDefEqProofs only [go_sem, ↓reduceIte, Nat.reduceEqDiff], by simp -implicitDefEqProofs only [go_sem, ↓reduceIte, Nat.reduceEqDiff], by simp -implicitDefEqProofs only [go_sem, ↓reduceIte, Nat.reduceEqDiff], by simp -implicitDefEqProofs only [go_sem, ↓reduceIte, Nat.reduceEqDiff], by simp -implicitDefEqProofs only [go_sem, ↓reduceIte, Nat.reduceEqDiff]⟩
 ·rintro J M Q' hJ hM hQ e S4 ⟨k, L, T, t, hk, hp, hg, hT4, hL, e1, e5, e30, e31, e32⟩
  have hli := hp.list
  have hkm := hp.km
  have hLP : L.length ≤ 1000000 := by omega
  have hse : Sorted L := hli ▸ hkm.2.2
  have hWl : (T.map Prod.fst).length ≤ 4 := by rw [List.length_map]; exact hT4
  by_cases hlt : k < l.length
  ·obtain ⟨d, hd⟩ : ∃ d, l[k]? = some d := ⟨l[k], List.getElem?_eq_getElem hlt⟩
   have hlti : (k : Int) < (l.length : Int) := by omega
   have h0 : (0 : Int) ≤ (k : Int) ∧ (k : Int) < (l.length : Int) := by omega
   have hw1 : IntKind.i64.wrap ((k : Int) + 1) = ((k + 1 : Nat) : Int) := wrap64 (by omega) (by omega)
   have hdO := hO d (List.mem_of_getElem? hd)
   have hdw := hw d (List.mem_of_getElem? hd)
   simp -implicitDefEqProofs only [go_sem, ↓reduceIte, Nat.reduceEqDiff, Nat.reduceLT, Nat.reduceLeDiff, Nat.reduceAdd, Nat.reduceMul, Nat.reduceSub, reduceCtorEq, Nat.reduceMod, Nat.reduceBEq, Int.reduceBEq, Int.reduceBNe, Int.reduceToNat, e5, e30, e31, e32, hlti, h0, Int.toNat_natCast, getD_encDvs hd]
   refine does_all hp hT4 d hdO (by omega) _ ?_
   intro S5 N t5 _ hN hp5
   have hg5 : GoodW (N.map Prod.fst) (stepL (T.map Prod.fst) L d) := by rw [hN]; exact hg.step d hdw
   have hN4 : N.length ≤ 4 := by have := stepW_len hWl L d; rw [← hN, List.length_map] at this; exact this
   have hL4 := stepL_len (ws := T.map Prod.fst) hse d
   simp -implicitDefEqProofs only [go_sem, ↓reduceIte, Nat.reduceEqDiff, Nat.reduceLT, Nat.reduceLeDiff, Nat.reduceAdd, Nat.reduceMul, Nat.reduceSub, reduceCtorEq, Nat.reduceMod, Nat.reduceBEq, Int.reduceBEq, Int.reduceBNe, Int.reduceToNat, e32, hw1]
   refine vnext hJ hM S5 (fun _ _ h => h) ⟨k + 1, _, N, t5, hlt, hp5, hg5, hN4, by omega, ?_, ?_, ?_, ?_, ?_⟩ ?_
   ·simp -implicitDefEqProofs only [go_sem, ↓reduceIte, Nat.reduceEqDiff, e1]
   ·simp -implicitDefEqProofs only [go_sem, ↓reduceIte, Nat.reduceEqDiff, e5]
   ·simp -implicitDefEqProofs only [go_sem, ↓reduceIte, Nat.reduceEqDiff, e30]
   ·simp -implicitDefEqProofs only [go_sem, ↓reduceIte, Nat.reduceEqDiff, e31]
   ·simp -implicitDefEqProofs only [go_sem, ↓reduceIte, Nat.reduceEqDiff]
   ·simp -implicitDefEqProofs only [go_sem, ↓reduceIte, Nat.reduceEqDiff, e32, Int.toNat_natCast]
    omega
  ·have hnl : ¬ (k : Int) < (l.length : Int) := by omega
   simp -implicitDefEqProofs only [go_sem, ↓reduceIte, Nat.reduceEqDiff, Nat.reduceLT, Nat.reduceLeDiff, Nat.reduceAdd, Nat.reduceMul, Nat.reduceSub, reduceCtorEq, Nat.reduceMod, Nat.reduceBEq, Int.reduceBEq, Int.reduceBNe, Int.reduceToNat, e31, e32, hnl]
   refine hQ _ _ _ ?_
   simp -implicitDefEqProofs only [go_sem, ↓reduceIte, Nat.reduceEqDiff, Nat.reduceLT, Nat.reduceLeDiff, Nat.reduceAdd, Nat.reduceMul, Nat.reduceSub, reduceCtorEq, Nat.reduceMod, Nat.reduceBEq, Int.reduceBEq, Int.reduceBNe, Int.reduceToNat, e5]
   refine KScan_spec hkm (by rw [hli]; exact hLP) _ _ _ ?_
   rw [hli, rangeL_all]
   simp -implicitDefEqProofs only [go_sem, ↓reduceIte, Nat.reduceEqDiff, Nat.reduceLT, Nat.reduceLeDiff, Nat.reduceAdd, Nat.reduceMul, Nat.reduceSub, reduceCtorEq, Nat.reduceMod, Nat.reduceBEq, Int.reduceBEq, Int.reduceBNe, Int.reduceToNat, e1, e5]
   refine PCalls.unflag (KPlan_spec hkm (by rw [hli]; omega) 1 [] all _ ?_)
   rw [hli]
   have hdo := doF_take L 1 [] all
   have htold := planF_told hse 1 [] all
   have hfit := planF_fit hp.fit (pos := 1) (conds := []) hOa
   have hpl := planF_len L 1 [] all
   have hdl := doF_ok hse 1 [] all
   rw [hdo] at hdl
   obtain ⟨E, c, hE⟩ : ∃ E c, planF L 1 [] all = (E, c) := ⟨_, _, rfl⟩
   rw [hE] at htold hfit hpl hdl ⊢
   unfold encPl
   dsimp only at htold hfit hpl hdl ⊢
   by_cases hc : c = 0
   ·have c0 : (c != 0) = false := by rw [hc]; rfl
    simp -implicitDefEqProofs only [go_sem, ↓reduceIte, Nat.reduceEqDiff, Nat.reduceLT, Nat.reduceLeDiff, Nat.reduceAdd, Nat.reduceMul, Nat.reduceSub, reduceCtorEq, Nat.reduceMod, Nat.reduceBEq, Int.reduceBEq, Int.reduceBNe, Int.reduceToNat, c0, Bool.false_eq_true, e5]
    have hch := chain_of hse htold (fun x hx => ⟨(hfit x hx).2.1, (hfit x hx).2.2⟩)
    have hvs : Vs S4 vid T (takeF L (E.take 0)) := hp.vs
    have hall : E.take E.length = E := List.take_length
    refine VTake_calls E (by omega) hch hvs hp.few _ ?_ ?_
    ·intro S5 hs5 htk
     rw [hall, takeE_W] at htk
     have n72 : ((72 : Int) != 72) = false := rfl
     have hp5 := hp.keep hs5
     have hdfit : FitK (takeF L E) := fit_take _ _ hp.fit (fun x hx => hfit x hx)
     simp -implicitDefEqProofs only [go_sem, ↓reduceIte, Nat.reduceEqDiff, Nat.reduceLT, Nat.reduceLeDiff, Nat.reduceAdd, Nat.reduceMul, Nat.reduceSub, reduceCtorEq, Nat.reduceMod, Nat.reduceBEq, Int.reduceBEq, Int.reduceBNe, Int.reduceToNat, n72, Bool.false_eq_true, e5]
     refine KClone_calls hp5.km _ fun cid hcid => ?_
     have hkc : Km (S5.set cid (some [.ip [enc t] 0])) cid t := Km.mk S5 cid hkm.2.1 hkm.2.2
     simp -implicitDefEqProofs only [go_sem, ↓reduceIte, Nat.reduceEqDiff, Nat.reduceLT, Nat.reduceLeDiff, Nat.reduceAdd, Nat.reduceMul, Nat.reduceSub, reduceCtorEq, Nat.reduceMod, Nat.reduceBEq, Int.reduceBEq, Int.reduceBNe, Int.reduceToNat]
     refine KTake_calls hkc E (by rw [hli]; omega) _ ?_
     intro q oq hql
     rw [hli] at hql
     rw [set_set]
     have hkq : Km (S5.set cid (some [.ip [enc q] 0])) cid q := Km.mk S5 cid oq (by rw [hql]; exact hdl.1)
     have hsub6 : Sub' S5 (S5.set cid (some [.ip [enc q] 0])) := fun id x hx => by rw [Go.VL.set_ne (fun he => by rw [he, hcid] at hx; cases hx)]; exact hx
     generalize S5.set cid (some [.ip [enc q] 0]) = S6 at hkq hsub6 ⊢
     have hp6 := hp5.keep hsub6
     simp -implicitDefEqProofs only [go_sem, ↓reduceIte, Nat.reduceEqDiff, Nat.reduceLT, Nat.reduceLeDiff, Nat.reduceAdd, Nat.reduceMul, Nat.reduceSub, reduceCtorEq, Nat.reduceMod, Nat.reduceBEq, Int.reduceBEq, Int.reduceBNe, Int.reduceToNat, e5]
     refine VList_spec hp6.vs hp6.few _ ?_
     simp -implicitDefEqProofs only [go_sem, ↓reduceIte, Nat.reduceEqDiff, Nat.reduceLT, Nat.reduceLeDiff, Nat.reduceAdd, Nat.reduceMul, Nat.reduceSub, reduceCtorEq, Nat.reduceMod, Nat.reduceBEq, Int.reduceBEq, Int.reduceBNe, Int.reduceToNat]
     intro xid hx
     have hsub7 : Sub' S6 (S6.set xid (some [.sl .no 4 (encWs (T.map Prod.fst))])) := fun id x hi => by rw [Go.VL.set_ne (fun he => by rw [he, hx] at hi; cases hi)]; exact hi
     have hrv7 : Rv (S6.set xid (some [.sl .no 4 (encWs (T.map Prod.fst))])) xid (T.map Prod.fst) := set_at _ _ _
     generalize S6.set xid (some [.sl .no 4 (encWs (T.map Prod.fst))]) = S7 at hsub7 hrv7 ⊢
     have hp7 := hp6.keep hsub7
     have hkq7 : Km S7 cid q := ⟨hsub7 _ _ hkq.1, hkq.2⟩
     have hli7 := hp7.list
     simp -implicitDefEqProofs only [go_sem, ↓reduceIte, Nat.reduceEqDiff, Nat.reduceLT, Nat.reduceLeDiff, Nat.reduceAdd, Nat.reduceMul, Nat.reduceSub, reduceCtorEq, Nat.reduceMod, Nat.reduceBEq, Int.reduceBEq, Int.reduceBNe, Int.reduceToNat, e5]
     refine KScan_spec hp7.km (by rw [hli]; exact hLP) _ _ _ ?_
     rw [hli, rangeL_all]
     simp -implicitDefEqProofs only [go_sem, ↓reduceIte, Nat.reduceEqDiff, Nat.reduceLT, Nat.reduceLeDiff, Nat.reduceAdd, Nat.reduceMul, Nat.reduceSub, reduceCtorEq, Nat.reduceMod, Nat.reduceBEq, Int.reduceBEq, Int.reduceBNe, Int.reduceToNat]
     refine EqualO_refl (L.map kOf) (by rw [List.length_map]; exact hLP) _ _ ?_
     simp -implicitDefEqProofs only [go_sem, ↓reduceIte, Nat.reduceEqDiff, Nat.reduceLT, Nat.reduceLeDiff, Nat.reduceAdd, Nat.reduceMul, Nat.reduceSub, reduceCtorEq, Nat.reduceMod, Nat.reduceBEq, Int.reduceBEq, Int.reduceBNe, Int.reduceToNat, e5]
     refine told_calls hp7 hg _ ?_
     intro S8 hs8
     have hkq8 : Km S8 cid q := ⟨hs8 _ _ hkq7.1, hkq7.2⟩
     have hrv8 : Rv S8 xid (T.map Prod.fst) := hs8 _ _ hrv7
     simp -implicitDefEqProofs only [go_sem, ↓reduceIte, Nat.reduceEqDiff, Nat.reduceLT, Nat.reduceLeDiff, Nat.reduceAdd, Nat.reduceMul, Nat.reduceSub, reduceCtorEq, Nat.reduceMod, Nat.reduceBEq, Int.reduceBEq, Int.reduceBNe, Int.reduceToNat]
     refine KScan_spec hkq8 (by rw [hql]; omega) _ _ _ ?_
     rw [hql, rangeL_all]
     simp -implicitDefEqProofs only [go_sem, ↓reduceIte, Nat.reduceEqDiff, Nat.reduceLT, Nat.reduceLeDiff, Nat.reduceAdd, Nat.reduceMul, Nat.reduceSub, reduceCtorEq, Nat.reduceMod, Nat.reduceBEq, Int.reduceBEq, Int.reduceBNe, Int.reduceToNat]
     refine RFits_spec hrv8 (by omega) (fun w hw => ⟨(hg.ok w hw).1, (hg.ok w hw).2.2⟩) (takeF L E) (by omega) hdfit (sorted_nodup hdl.1) _ ?_
     rw [htk]
     have e72 : ((72 : Int) == 72) = true := rfl
     simp -implicitDefEqProofs only [go_sem, ↓reduceIte, Nat.reduceEqDiff, Nat.reduceLT, Nat.reduceLeDiff, Nat.reduceAdd, Nat.reduceMul, Nat.reduceSub, reduceCtorEq, Nat.reduceMod, Nat.reduceBEq, Int.reduceBEq, Int.reduceBNe, Int.reduceToNat, e72]
     refine aw_calls _ _ ?_
     intro S9
     simp -implicitDefEqProofs only [go_sem, ↓reduceIte, Nat.reduceEqDiff, Nat.reduceLT, Nat.reduceLeDiff, Nat.reduceAdd, Nat.reduceMul, Nat.reduceSub, reduceCtorEq, Nat.reduceMod, Nat.reduceBEq, Int.reduceBEq, Int.reduceBNe, Int.reduceToNat]
     exact ⟨S9, fun _ _ h => h, hK S9⟩
    ·intro S5 N _ _ _ _
     have n72 : ((0 : Int) != 72) = true := rfl
     simp -implicitDefEqProofs only [go_sem, ↓reduceIte, Nat.reduceEqDiff, Nat.reduceLT, Nat.reduceLeDiff, Nat.reduceAdd, Nat.reduceMul, Nat.reduceSub, reduceCtorEq, Nat.reduceMod, Nat.reduceBEq, Int.reduceBEq, Int.reduceBNe, Int.reduceToNat, n72]
     refine aw_calls _ _ ?_
     intro S6
     simp -implicitDefEqProofs only [go_sem, ↓reduceIte, Nat.reduceEqDiff, Nat.reduceLT, Nat.reduceLeDiff, Nat.reduceAdd, Nat.reduceMul, Nat.reduceSub, reduceCtorEq, Nat.reduceMod, Nat.reduceBEq, Int.reduceBEq, Int.reduceBNe, Int.reduceToNat]
     exact ⟨S6, fun _ _ h => h, hK S6⟩
   ·have c0 : (c != 0) = true := by simp [hc]
    simp -implicitDefEqProofs only [go_sem, ↓reduceIte, Nat.reduceEqDiff, Nat.reduceLT, Nat.reduceLeDiff, Nat.reduceAdd, Nat.reduceMul, Nat.reduceSub, reduceCtorEq, Nat.reduceMod, Nat.reduceBEq, Int.reduceBEq, Int.reduceBNe, Int.reduceToNat, c0]
    refine aw_calls _ _ ?_
    intro S5
    simp -implicitDefEqProofs only [go_sem, ↓reduceIte, Nat.reduceEqDiff, Nat.reduceLT, Nat.reduceLeDiff, Nat.reduceAdd, Nat.reduceMul, Nat.reduceSub, reduceCtorEq, Nat.reduceMod, Nat.reduceBEq, Int.reduceBEq, Int.reduceBNe, Int.reduceToNat]
    exact ⟨S5, fun _ _ h => h, hK S5⟩
end Go.Proofs.YtdioedabjaaboaaGreat.V
