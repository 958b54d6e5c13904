/- Views: what a view tells of a map; the law of it. -/
import Derived.Test.YtdioedabjaaboaaGreatYI
set_option linter.unusedVariables false
set_option linter.unusedSimpArgs false
namespace Go.Proofs.YtdioedabjaaboaaGreat.V
open Go Go.VL

/-- What a view tells, or why not. -/
noncomputable def ofV (w : Wv) (P : List Pr) : List RV × Int := if vcheck w = 0 then (if fitsQ w P = true then (rowsOf w P, 0) else ([], 72)) else ([], vcheck w)
def encOf (r : List RV × Int) : PV := .tup [.sl .no 3 (encRVs r.1), .int .i64 r.2]
theorem ofV_pv (w : Wv) (P : List Pr) : (if vcheck w = 0 then (if fitsQ w P = true then PV.tup [.sl .no 3 (encRVs (rowsOf w P)), .int .i64 0] else .tup [.sl .no 3 [], .int .i64 72]) else .tup [.sl .no 3 [], .int .i64 (vcheck w)]) = encOf (ofV w P) := by
  unfold encOf ofV
  split
  · split <;> rfl
  · rfl
theorem rowsOf_len' (w : Wv) (L : List Pr) : (rowsOf w L).length ≤ L.length := by
  unfold rowsOf
  rw [List.length_map, len_sortB]
  exact groups_len w L
theorem rowsOf_keys' (w : Wv) (L : List Pr) : ∀ r ∈ rowsOf w L, r.keys.length ≤ L.length := by
  intro r hr
  unfold rowsOf at hr
  obtain ⟨g, _, rfl⟩ := List.mem_map.1 hr
  unfold rowOf
  dsimp only
  split
  · rw [len_sortB, List.length_map]; exact List.length_filter_le _ _
  · exact Nat.zero_le _
theorem ofV_len (w : Wv) (L : List Pr) : (ofV w L).1.length ≤ L.length ∧ ∀ r ∈ (ofV w L).1, r.keys.length ≤ L.length := by
  unfold ofV
  split
  · split
    · exact ⟨rowsOf_len' w L, rowsOf_keys' w L⟩
    · exact ⟨Nat.zero_le _, fun r hr => by cases hr⟩
  · exact ⟨Nat.zero_le _, fun r hr => by cases hr⟩
theorem ROf_pv (w : Wv) (hw : FitW w) (P : List Pr) (hP : P.length ≤ 1000000) (hf : FitK P) (hn : (P.map Prod.fst).Nodup) (S : Store) :
    PRet Tryz.prog 13 [.agg (encW w), .sl .no 3 (encOs (P.map kOf))] S (encOf (ofV w P)) := by
  rw [← ofV_pv]; exact ROf_spec w hw P hP hf hn S
theorem VOf_calls (w : Wv) (P : List Pr) (hP : P.length ≤ 1000000) (hf : FitK P) (hn : (P.map Prod.fst).Nodup) (S : Store) (K : PV → Store → Prop) (hK : ∀ S', Sub' S S' → K (encOf (ofV w P)) S') :
    PCalls Tryz.prog 11 [.agg (encW w), .sl .no 3 (encOs (P.map kOf))] S K := by
  rw [← ofV_pv] at hK
  refine pcalls_of (C := C) (fun _ => false) (fun _ => false) Tryz.func11 rfl rfl (by simp [Tryz.f11]) ?_
  unfold encW
  simp -implicitDefEqProofs only [go_sem, ↓reduceIte, Nat.reduceEqDiff, Nat.reduceLT, Nat.reduceLeDiff, Nat.reduceAdd, Nat.reduceMul, Nat.reduceSub, reduceCtorEq, Nat.reduceMod, Nat.reduceBEq, Int.reduceBEq, Int.reduceBNe, Int.reduceToNat, Tryz.f11]
  refine VCheck_spec w _ _ ?_
  by_cases h0 : vcheck w = 0
  · have d0 : (vcheck w != 0) = false := by rw [h0]; rfl
    rw [if_pos h0] at hK
    simp -implicitDefEqProofs only [go_sem, ↓reduceIte, Nat.reduceEqDiff, Nat.reduceLT, Nat.reduceLeDiff, Nat.reduceAdd, Nat.reduceMul, Nat.reduceSub, reduceCtorEq, Nat.reduceMod, Nat.reduceBEq, Int.reduceBEq, Int.reduceBNe, Int.reduceToNat, d0, Bool.false_eq_true]
    refine build_calls w P hP (fun p hp => (hf p hp).2) hn _ _ ?_
    intro S' gid kd ht
    unfold encT
    cases hq : fitsQ w P
    · rw [hq] at hK
      simp -implicitDefEqProofs only [go_sem, ↓reduceIte, Nat.reduceEqDiff, Nat.reduceLT, Nat.reduceLeDiff, Nat.reduceAdd, Nat.reduceMul, Nat.reduceSub, reduceCtorEq, Nat.reduceMod, Nat.reduceBEq, Int.reduceBEq, Int.reduceBNe, Int.reduceToNat, Bool.not_false]
      exact ⟨S', fun _ _ h => h, hK S' ht.old⟩
    · rw [hq] at hK
      simp -implicitDefEqProofs only [go_sem, ↓reduceIte, Nat.reduceEqDiff, Nat.reduceLT, Nat.reduceLeDiff, Nat.reduceAdd, Nat.reduceMul, Nat.reduceSub, reduceCtorEq, Nat.reduceMod, Nat.reduceBEq, Int.reduceBEq, Int.reduceBNe, Int.reduceToNat, Bool.not_true, Bool.false_eq_true]
      refine rows_spec ht.tab hP hf hn _ ?_
      simp -implicitDefEqProofs only [go_sem, ↓reduceIte, Nat.reduceEqDiff, Nat.reduceLT, Nat.reduceLeDiff, Nat.reduceAdd, Nat.reduceMul, Nat.reduceSub, reduceCtorEq, Nat.reduceMod, Nat.reduceBEq, Int.reduceBEq, Int.reduceBNe, Int.reduceToNat]
      exact ⟨S', fun _ _ h => h, hK S' ht.old⟩
  · have d0 : (vcheck w != 0) = true := by simp [h0]
    rw [if_neg h0] at hK
    simp -implicitDefEqProofs only [go_sem, ↓reduceIte, Nat.reduceEqDiff, Nat.reduceLT, Nat.reduceLeDiff, Nat.reduceAdd, Nat.reduceMul, Nat.reduceSub, reduceCtorEq, Nat.reduceMod, Nat.reduceBEq, Int.reduceBEq, Int.reduceBNe, Int.reduceToNat, d0]
    exact ⟨S, fun _ _ h => h, hK S fun _ _ h => h⟩
theorem SameR_spec (w : Wv) (P : List Pr) (hP : P.length ≤ 1000000) (S : Store) : PRet Tryz.prog 15 [.sl .no 3 (encRVs (ofV w P).1), .sl .no 3 (encRVs (ofV w P).1)] S (.bool true) :=
  Same_spec _ (Nat.le_trans (ofV_len w P).1 hP) (fun r hr => Nat.le_trans ((ofV_len w P).2 r hr) hP) S
theorem aw_calls (S : Store) (K : PV → Store → Prop) (hK : ∀ S', K (.bool true) S') : PCalls Tryz.prog 9 [] S K := vawake_calls S K fun S2 _ => hK S2
set_option maxHeartbeats 4000000 in
theorem of_law (w : Wv) (all : List KO) (hw : FitW w) (S : Store) (K : PV → Store → Prop) (hK : ∀ S', K (.bool true) S') : PCalls Tryz.prog 4 [.agg (encW w), .sl .no 3 (encOs all)] S K := by
  refine pcalls_of (C := C) (fun _ => false) (fun _ => false) Tryz.func4 rfl rfl (by simp [Tryz.f4]) ?_
  unfold encW
  simp -implicitDefEqProofs only [go_sem, ↓reduceIte, Nat.reduceEqDiff, Nat.reduceLT, Nat.reduceLeDiff, Nat.reduceAdd, Nat.reduceMul, Nat.reduceSub, reduceCtorEq, Nat.reduceMod, Nat.reduceBEq, Int.reduceBEq, Int.reduceBNe, Int.reduceToNat, Tryz.f4, List.length_cons, List.length_nil, Nat.zero_add]
  refine shortV_spec [⟨0, all, w⟩] _ _ ?_
  cases hs : shortV [⟨0, all, w⟩]
  · simp -implicitDefEqProofs only [go_sem, ↓reduceIte, Nat.reduceEqDiff, Nat.reduceLT, Nat.reduceLeDiff, Nat.reduceAdd, Nat.reduceMul, Nat.reduceSub, reduceCtorEq, Nat.reduceMod, Nat.reduceBEq, Int.reduceBEq, Int.reduceBNe, Int.reduceToNat, Bool.not_false]
    refine aw_calls _ _ ?_
    intro S'
    simp -implicitDefEqProofs only [go_sem, ↓reduceIte, Nat.reduceEqDiff, Nat.reduceLT, Nat.reduceLeDiff, Nat.reduceAdd, Nat.reduceMul, Nat.reduceSub, reduceCtorEq, Nat.reduceMod, Nat.reduceBEq, Int.reduceBEq, Int.reduceBNe, Int.reduceToNat]
    exact ⟨S', fun _ _ h => h, hK S'⟩
  obtain ⟨hs1, hs2⟩ := shortV_fit hs
  obtain ⟨hal, hO⟩ := weighV_all (hs2 _ List.mem_cons_self)
  dsimp only at hal hO
  simp -implicitDefEqProofs only [go_sem, ↓reduceIte, Nat.reduceEqDiff, Nat.reduceLT, Nat.reduceLeDiff, Nat.reduceAdd, Nat.reduceMul, Nat.reduceSub, reduceCtorEq, Nat.reduceMod, Nat.reduceBEq, Int.reduceBEq, Int.reduceBNe, Int.reduceToNat, Bool.not_true, Bool.false_eq_true]
  refine KNew_calls _ _ ?_
  intro mid hm
  have hk0 : Km (S.set mid (some [.ip [enc .nil] 0])) mid .nil := Km.mk _ _ trivial List.Pairwise.nil
  generalize S.set mid (some [.ip [enc .nil] 0]) = S1 at hk0 ⊢
  simp -implicitDefEqProofs only [go_sem, ↓reduceIte, Nat.reduceEqDiff, Nat.reduceLT, Nat.reduceLeDiff, Nat.reduceAdd, Nat.reduceMul, Nat.reduceSub, reduceCtorEq, Nat.reduceMod, Nat.reduceBEq, Int.reduceBEq, Int.reduceBNe, Int.reduceToNat]
  refine vloop (fun e S' => ∃ (k : Nat) (t : V.T), k ≤ all.length ∧ Km S' mid t ∧ t.list.length ≤ 6 * k ∧ FitK t.list ∧ e 2 = .ip (encW w) 0 ∧ e 5 = .ref mid 0 ∧ e 21 = .sl .no 3 (encOs all) ∧ e 22 = .int .i64 all.length ∧ e 23 = .int .i64 k) (fun e _ => all.length - iv (e 23)) ?_ ?_
  · exact ⟨0, .nil, Nat.zero_le _, hk0, Nat.zero_le _, fun p hp => (by cases hp), by unfold encW; simp -implicitDefEqProofs only [go_sem, ↓reduceIte, Nat.reduceEqDiff, Nat.reduceLT, Nat.reduceLeDiff, Nat.reduceAdd, Nat.reduceMul, Nat.reduceSub, reduceCtorEq, Nat.reduceMod, Nat.reduceBEq, Int.reduceBEq, Int.reduceBNe, Int.reduceToNat], by simp -implicitDefEqProofs only [go_sem, ↓reduceIte, Nat.reduceEqDiff], by simp -implicitDefEqProofs only [go_sem, ↓reduceIte, Nat.reduceEqDiff], by simp -implicitDefEqProofs only [go_sem, ↓reduceIte, Nat.reduceEqDiff], by simp -implicitDefEqProofs only [go_sem, ↓reduceIte, Nat.reduceEqDiff]⟩
  · rintro J M Q' hJ hM hQ e S' ⟨k, t, hk, hkm, htl, hfk, e2, e5, e21, e22, e23⟩
    unfold encW at e2
    by_cases hlt : k < all.length
    · obtain ⟨o, ho⟩ : ∃ o, all[k]? = some o := ⟨all[k], List.getElem?_eq_getElem hlt⟩
      have hlti : (k : Int) < (all.length : Int) := by omega
      have h1 : (0 : Int) ≤ (k : Int) ∧ (k : Int) < (all.length : Int) := by omega
      have hw1 : IntKind.i64.wrap ((k : Int) + 1) = ((k + 1 : Nat) : Int) := wrap64 (by omega) (by omega)
      simp -implicitDefEqProofs only [go_sem, ↓reduceIte, Nat.reduceEqDiff, Nat.reduceLT, Nat.reduceLeDiff, Nat.reduceAdd, Nat.reduceMul, Nat.reduceSub, reduceCtorEq, Nat.reduceMod, Nat.reduceBEq, Int.reduceBEq, Int.reduceBNe, Int.reduceToNat, e5, e21, e22, e23, hlti, h1, Int.toNat_natCast, getD_encOs ho]
      refine PCalls.unflag (KDo_calls hkm (by omega) 1 [] [o] _ ?_)
      intro q hq hql
      have hoo : FitO [o] := fun x hx => by
        rw [List.mem_singleton] at hx; subst hx
        exact hO x (List.mem_of_getElem? ho)
      have hdl := (doF_ok hkm.2.2 1 [] [o]).2
      have hfq : FitK q.list := by
        rw [hql, doF_take]
        exact fit_take _ _ hfk (planF_fit hfk hoo)
      unfold encPl
      simp -implicitDefEqProofs only [go_sem, ↓reduceIte, Nat.reduceEqDiff, Nat.reduceLT, Nat.reduceLeDiff, Nat.reduceAdd, Nat.reduceMul, Nat.reduceSub, reduceCtorEq, Nat.reduceMod, Nat.reduceBEq, Int.reduceBEq, Int.reduceBNe, Int.reduceToNat, e23, hw1]
      refine vnext hJ hM _ (fun _ _ h => h) ⟨k + 1, q, hlt, hq, by rw [hql]; omega, hfq, ?_, ?_, ?_, ?_, ?_⟩ ?_
      · unfold encW; simp -implicitDefEqProofs only [go_sem, ↓reduceIte, Nat.reduceEqDiff, Nat.reduceLT, Nat.reduceLeDiff, Nat.reduceAdd, Nat.reduceMul, Nat.reduceSub, reduceCtorEq, Nat.reduceMod, Nat.reduceBEq, Int.reduceBEq, Int.reduceBNe, Int.reduceToNat, e2]
      · simp -implicitDefEqProofs only [go_sem, ↓reduceIte, Nat.reduceEqDiff, e5]
      · simp -implicitDefEqProofs only [go_sem, ↓reduceIte, Nat.reduceEqDiff, e21]
      · simp -implicitDefEqProofs only [go_sem, ↓reduceIte, Nat.reduceEqDiff, e22]
      · simp -implicitDefEqProofs only [go_sem, ↓reduceIte, Nat.reduceEqDiff]
      · simp -implicitDefEqProofs only [go_sem, ↓reduceIte, Nat.reduceEqDiff, e23, Int.toNat_natCast]
        omega
    · have hnl : ¬ (k : Int) < (all.length : Int) := by omega
      simp -implicitDefEqProofs only [go_sem, ↓reduceIte, Nat.reduceEqDiff, Nat.reduceLT, Nat.reduceLeDiff, Nat.reduceAdd, Nat.reduceMul, Nat.reduceSub, reduceCtorEq, Nat.reduceMod, Nat.reduceBEq, Int.reduceBEq, Int.reduceBNe, Int.reduceToNat, e22, e23, hnl]
      refine hQ _ _ _ ?_
      have hL : t.list.length ≤ 1000000 := by omega
      have hnd := sorted_nodup hkm.2.2
      simp -implicitDefEqProofs only [go_sem, ↓reduceIte, Nat.reduceEqDiff, Nat.reduceLT, Nat.reduceLeDiff, Nat.reduceAdd, Nat.reduceMul, Nat.reduceSub, reduceCtorEq, Nat.reduceMod, Nat.reduceBEq, Int.reduceBEq, Int.reduceBNe, Int.reduceToNat, e2, e5]
      refine KScan_spec hkm hL _ _ _ ?_
      rw [rangeL_all]
      simp -implicitDefEqProofs only [go_sem, ↓reduceIte, Nat.reduceEqDiff, Nat.reduceLT, Nat.reduceLeDiff, Nat.reduceAdd, Nat.reduceMul, Nat.reduceSub, reduceCtorEq, Nat.reduceMod, Nat.reduceBEq, Int.reduceBEq, Int.reduceBNe, Int.reduceToNat, e2]
      refine VOf_calls w t.list hL hfk hnd _ _ ?_
      intro S2 hs2
      unfold encOf
      simp -implicitDefEqProofs only [go_sem, ↓reduceIte, Nat.reduceEqDiff, Nat.reduceLT, Nat.reduceLeDiff, Nat.reduceAdd, Nat.reduceMul, Nat.reduceSub, reduceCtorEq, Nat.reduceMod, Nat.reduceBEq, Int.reduceBEq, Int.reduceBNe, Int.reduceToNat, e2]
      refine ROf_pv w hw t.list hL hfk hnd _ _ ?_
      unfold encOf
      simp -implicitDefEqProofs only [go_sem, ↓reduceIte, Nat.reduceEqDiff, Nat.reduceLT, Nat.reduceLeDiff, Nat.reduceAdd, Nat.reduceMul, Nat.reduceSub, reduceCtorEq, Nat.reduceMod, Nat.reduceBEq, Int.reduceBEq, Int.reduceBNe, Int.reduceToNat]
      refine vwp_mix (n := 12) (fun k => k == 16) (fun _ => false) [0, 1, 2, 3, 4, 5, 6, 7, 8, 9, 10, 11, 12, 13, 14, 15, 16, 17, 18] (by decide +kernel) ?_
      simp -implicitDefEqProofs only [go_sem, ↓reduceIte, Nat.reduceEqDiff, Nat.reduceLT, Nat.reduceLeDiff, Nat.reduceAdd, Nat.reduceMul, Nat.reduceSub, reduceCtorEq, Nat.reduceMod, Nat.reduceBEq, Int.reduceBEq, Int.reduceBNe, Int.reduceToNat, e2]
      refine q_call _ (by simp -implicitDefEqProofs only [go_sem, ↓reduceIte, Nat.reduceEqDiff]; exact SameR_spec w t.list hL _) (by decide) rfl ?_
      have hee : ∀ x : Int, (x == x) = true := fun x => by simp
      simp -implicitDefEqProofs only [go_sem, ↓reduceIte, Nat.reduceEqDiff, Nat.reduceLT, Nat.reduceLeDiff, Nat.reduceAdd, Nat.reduceMul, Nat.reduceSub, reduceCtorEq, Nat.reduceMod, Nat.reduceBEq, Int.reduceBEq, Int.reduceBNe, Int.reduceToNat, hee, e2]
      refine q_call _ (by simp -implicitDefEqProofs only [go_sem, ↓reduceIte, Nat.reduceEqDiff]; exact VCheck_spec w _) (by decide) rfl ?_
      simp -implicitDefEqProofs only [go_sem, ↓reduceIte, Nat.reduceEqDiff, Nat.reduceLT, Nat.reduceLeDiff, Nat.reduceAdd, Nat.reduceMul, Nat.reduceSub, reduceCtorEq, Nat.reduceMod, Nat.reduceBEq, Int.reduceBEq, Int.reduceBNe, Int.reduceToNat, e2]
      refine q_call _ (by simp -implicitDefEqProofs only [go_sem, ↓reduceIte, Nat.reduceEqDiff]; exact RCheck_spec w hw _) (by decide) rfl ?_
      simp -implicitDefEqProofs only [go_sem, ↓reduceIte, Nat.reduceEqDiff, Nat.reduceLT, Nat.reduceLeDiff, Nat.reduceAdd, Nat.reduceMul, Nat.reduceSub, reduceCtorEq, Nat.reduceMod, Nat.reduceBEq, Int.reduceBEq, Int.reduceBNe, Int.reduceToNat, hee]
      refine aw_calls _ _ ?_
      intro S3
      simp -implicitDefEqProofs only [go_sem, ↓reduceIte, Nat.reduceEqDiff, Nat.reduceLT, Nat.reduceLeDiff, Nat.reduceAdd, Nat.reduceMul, Nat.reduceSub, reduceCtorEq, Nat.reduceMod, Nat.reduceBEq, Int.reduceBEq, Int.reduceBNe, Int.reduceToNat]
      exact ⟨S3, fun _ _ h => h, hK S3⟩
end Go.Proofs.YtdioedabjaaboaaGreat.V
