/- Views: what a view tells hangs on the map alone: the law, walked. -/
import Derived.Test.YtdioedabjaaboaaXP1
set_option linter.unusedVariables false
set_option linter.unusedSimpArgs false
namespace Go.Proofs.Ytdioedabjaaboaa.V
open Go Go.VL

def encWs (l : List Wv) : List (List PV) := l.map encW
@[go_sem] theorem len_encWs (l : List Wv) : (encWs l).length = l.length := by simp [encWs]
theorem getD_encWs {l : List Wv} {k : Nat} {w : Wv} (h : l[k]? = some w) : (encWs l).getD k [] = [.str w.name, .int .i64 w.kind, .str w.field, .str w.of_] := by
  simp [encWs, encW, List.getD_eq_getElem?_getD, h]
theorem split_fst {O U N : WT} (h : N.map Prod.fst = (O ++ U).map Prod.fst) : ∃ O' U', N = O' ++ U' ∧ O'.map Prod.fst = O.map Prod.fst ∧ U'.map Prod.fst = U.map Prod.fst := by
  rw [List.map_append] at h
  obtain ⟨a, b, h1, h2, h3⟩ := List.map_eq_append_iff.1 h
  exact ⟨a, b, h1, h2, h3⟩
set_option maxHeartbeats 16000000 in
theorem apart_law (l : List DV) (w : Wv) (others : List Wv) (hl : l.length ≤ 1599289640354) (S : Store) (K : PV → Store → Prop) (hK : ∀ S', K (.bool true) S') : PCalls Try.prog 4 [.sl .no 6 (encDvs l), .agg (encW w), .sl .no 4 (encWs others)] S K := by
  refine pcalls_of (C := C) (fun _ => false) (fun _ => false) Try.func4 rfl rfl (by simp [Try.f4]) ?_
  unfold encW
  have hap : (1 + l.length) * 88 ≤ 140737488355328 ∧ 1 + l.length ≤ 140737488355328 := by omega
  simp -implicitDefEqProofs only [go_sem, ↓reduceIte, Nat.reduceEqDiff, Nat.reduceLT, Nat.reduceLeDiff, Nat.reduceAdd, Nat.reduceMul, Nat.reduceSub, reduceCtorEq, Nat.reduceMod, Nat.reduceBEq, Int.reduceBEq, Int.reduceBNe, Int.reduceToNat, Try.f4, List.length_cons, List.length_nil, Nat.zero_add, hap]
  refine shortV_spec (⟨0, [], w⟩ :: l) _ _ ?_
  have aw : ∀ S' (K : PV → Store → Prop), (∀ S', K (.bool true) S') → PCalls Try.prog 7 [] S' K := fun S' K h => vawake_calls S' K fun S2 _ => h S2
  cases hs : shortV (⟨0, [], w⟩ :: l)
  · simp -implicitDefEqProofs only [go_sem, ↓reduceIte, Nat.reduceEqDiff, Nat.reduceLT, Nat.reduceLeDiff, Nat.reduceAdd, Nat.reduceMul, Nat.reduceSub, reduceCtorEq, Nat.reduceMod, Nat.reduceBEq, Int.reduceBEq, Int.reduceBNe, Int.reduceToNat, Bool.not_false]
    refine aw _ _ ?_
    intro S'
    simp -implicitDefEqProofs only [go_sem, ↓reduceIte, Nat.reduceEqDiff, Nat.reduceLT, Nat.reduceLeDiff, Nat.reduceAdd, Nat.reduceMul, Nat.reduceSub, reduceCtorEq, Nat.reduceMod, Nat.reduceBEq, Int.reduceBEq, Int.reduceBNe, Int.reduceToNat]
    exact ⟨S', fun _ _ h => h, hK S'⟩
  obtain ⟨hs1, hs2⟩ := shortV_fit hs
  simp only [List.length_cons] at hs1
  have hO : ∀ d ∈ l, FitO d.ops := fun d hd => (weighV_all (hs2 d (List.mem_cons_of_mem _ hd))).2
  by_cases h3 : (3 : Int) < (others.length : Int)
  · simp -implicitDefEqProofs only [go_sem, ↓reduceIte, Nat.reduceEqDiff, Nat.reduceLT, Nat.reduceLeDiff, Nat.reduceAdd, Nat.reduceMul, Nat.reduceSub, reduceCtorEq, Nat.reduceMod, Nat.reduceBEq, Int.reduceBEq, Int.reduceBNe, Int.reduceToNat, Bool.not_true, h3]
    refine aw _ _ ?_
    intro S'
    simp -implicitDefEqProofs only [go_sem, ↓reduceIte, Nat.reduceEqDiff, Nat.reduceLT, Nat.reduceLeDiff, Nat.reduceAdd, Nat.reduceMul, Nat.reduceSub, reduceCtorEq, Nat.reduceMod, Nat.reduceBEq, Int.reduceBEq, Int.reduceBNe, Int.reduceToNat]
    exact ⟨S', fun _ _ h => h, hK S'⟩
  simp -implicitDefEqProofs only [go_sem, ↓reduceIte, Nat.reduceEqDiff, Nat.reduceLT, Nat.reduceLeDiff, Nat.reduceAdd, Nat.reduceMul, Nat.reduceSub, reduceCtorEq, Nat.reduceMod, Nat.reduceBEq, Int.reduceBEq, Int.reduceBNe, Int.reduceToNat, Bool.not_true, h3, Bool.false_eq_true]
  refine begun_calls S _ ?_
  intro S1 a1 a2 hsub1 ha1 ha2 hA1
  unfold encPair
  simp -implicitDefEqProofs only [go_sem, ↓reduceIte, Nat.reduceEqDiff, Nat.reduceLT, Nat.reduceLeDiff, Nat.reduceAdd, Nat.reduceMul, Nat.reduceSub, reduceCtorEq, Nat.reduceMod, Nat.reduceBEq, Int.reduceBEq, Int.reduceBNe, Int.reduceToNat]
  refine begun_calls S1 _ ?_
  intro S2 b1 b2 hsub2 hb1 hb2 hB
  have hA : Ps S2 a1 a2 [] [] .nil := ⟨⟨hsub2 _ _ hA1.km.1, hA1.km.2⟩, rfl, hA1.vs.keep hsub2, hA1.fit, hA1.len, hA1.few⟩
  have n1 : b1 ≠ a1 := fun he => by rw [he, hA1.km.1] at hb1; cases hb1
  have n2 : b1 ≠ a2 := fun he => by rw [he, hA1.vs.at_] at hb1; cases hb1
  have n3 : b2 ≠ a1 := fun he => by rw [he, hA1.km.1] at hb2; cases hb2
  have n4 : b2 ≠ a2 := fun he => by rw [he, hA1.vs.at_] at hb2; cases hb2
  have hT : Two S2 a1 a2 b1 b2 w [] [] [] [] .nil .nil := ⟨hA, hB, n1, n2, n3, n4, fun t ht => (by cases ht), fun t ht => (by cases ht), by decide, rfl⟩
  unfold encPair
  simp -implicitDefEqProofs only [go_sem, ↓reduceIte, Nat.reduceEqDiff, Nat.reduceLT, Nat.reduceLeDiff, Nat.reduceAdd, Nat.reduceMul, Nat.reduceSub, reduceCtorEq, Nat.reduceMod, Nat.reduceBEq, Int.reduceBEq, Int.reduceBNe, Int.reduceToNat]
  refine vloop (fun e S' => ∃ (k : Nat) (O : WT) (t : V.T), k ≤ others.length ∧ Two S' a1 a2 b1 b2 w [] O [] [] t .nil ∧ O.length ≤ k ∧
    e 0 = .sl .no 6 (encDvs l) ∧ e 4 = .ip (encW w) 0 ∧ e 7 = .ip [.ref a1 0, .ref a2 0] 0 ∧ e 8 = .ip [.ref b1 0, .ref b2 0] 0 ∧ e 34 = .sl .no 4 (encWs others) ∧ e 35 = .int .i64 others.length ∧ e 36 = .int .i64 k) (fun e _ => others.length - iv (e 36)) ?_ ?_
  · exact ⟨0, [], .nil, Nat.zero_le _, hT, Nat.zero_le _, by simp -implicitDefEqProofs only [go_sem, ↓reduceIte, Nat.reduceEqDiff, Nat.reduceLT, Nat.reduceLeDiff, Nat.reduceAdd, Nat.reduceMul, Nat.reduceSub, reduceCtorEq, Nat.reduceMod, Nat.reduceBEq, Int.reduceBEq, Int.reduceBNe, Int.reduceToNat], by unfold encW; simp -implicitDefEqProofs only [go_sem, ↓reduceIte, Nat.reduceEqDiff, Nat.reduceLT, Nat.reduceLeDiff, Nat.reduceAdd, Nat.reduceMul, Nat.reduceSub, reduceCtorEq, Nat.reduceMod, Nat.reduceBEq, Int.reduceBEq, Int.reduceBNe, Int.reduceToNat], by simp -implicitDefEqProofs only [go_sem, ↓reduceIte, Nat.reduceEqDiff, Nat.reduceLT, Nat.reduceLeDiff, Nat.reduceAdd, Nat.reduceMul, Nat.reduceSub, reduceCtorEq, Nat.reduceMod, Nat.reduceBEq, Int.reduceBEq, Int.reduceBNe, Int.reduceToNat], by simp -implicitDefEqProofs only [go_sem, ↓reduceIte, Nat.reduceEqDiff, Nat.reduceLT, Nat.reduceLeDiff, Nat.reduceAdd, Nat.reduceMul, Nat.reduceSub, reduceCtorEq, Nat.reduceMod, Nat.reduceBEq, Int.reduceBEq, Int.reduceBNe, Int.reduceToNat], by simp -implicitDefEqProofs only [go_sem, ↓reduceIte, Nat.reduceEqDiff, Nat.reduceLT, Nat.reduceLeDiff, Nat.reduceAdd, Nat.reduceMul, Nat.reduceSub, reduceCtorEq, Nat.reduceMod, Nat.reduceBEq, Int.reduceBEq, Int.reduceBNe, Int.reduceToNat], by simp -implicitDefEqProofs only [go_sem, ↓reduceIte, Nat.reduceEqDiff, Nat.reduceLT, Nat.reduceLeDiff, Nat.reduceAdd, Nat.reduceMul, Nat.reduceSub, reduceCtorEq, Nat.reduceMod, Nat.reduceBEq, Int.reduceBEq, Int.reduceBNe, Int.reduceToNat], by simp -implicitDefEqProofs only [go_sem, ↓reduceIte, Nat.reduceEqDiff, Nat.reduceLT, Nat.reduceLeDiff, Nat.reduceAdd, Nat.reduceMul, Nat.reduceSub, reduceCtorEq, Nat.reduceMod, Nat.reduceBEq, Int.reduceBEq, Int.reduceBNe, Int.reduceToNat]⟩
  · rintro J M Q' hJ hM hQ e S' ⟨k, O, t, hk, hT, hOk, e0, e4, e7, e8, e34, e35, e36⟩
    unfold encW at e4
    by_cases hlt : k < others.length
    · obtain ⟨o, ho⟩ : ∃ o, others[k]? = some o := ⟨others[k], List.getElem?_eq_getElem hlt⟩
      have hlti : (k : Int) < (others.length : Int) := by omega
      have h0 : (0 : Int) ≤ (k : Int) ∧ (k : Int) < (others.length : Int) := by omega
      have hw : IntKind.i64.wrap ((k : Int) + 1) = ((k + 1 : Nat) : Int) := wrap64 (by omega) (by omega)
      by_cases k3 : o.kind = 3
      · have d3 : (o.kind == 3) = true := by rw [k3]; rfl
        simp -implicitDefEqProofs only [go_sem, ↓reduceIte, Nat.reduceEqDiff, Nat.reduceLT, Nat.reduceLeDiff, Nat.reduceAdd, Nat.reduceMul, Nat.reduceSub, reduceCtorEq, Nat.reduceMod, Nat.reduceBEq, Int.reduceBEq, Int.reduceBNe, Int.reduceToNat, e34, e35, e36, hlti, h0, Int.toNat_natCast, getD_encWs ho, d3]
        refine aw _ _ ?_
        intro S3
        simp -implicitDefEqProofs only [go_sem, ↓reduceIte, Nat.reduceEqDiff, Nat.reduceLT, Nat.reduceLeDiff, Nat.reduceAdd, Nat.reduceMul, Nat.reduceSub, reduceCtorEq, Nat.reduceMod, Nat.reduceBEq, Int.reduceBEq, Int.reduceBNe, Int.reduceToNat]
        refine hQ _ _ _ ?_
        simp -implicitDefEqProofs only [go_sem, ↓reduceIte, Nat.reduceEqDiff, Nat.reduceLT, Nat.reduceLeDiff, Nat.reduceAdd, Nat.reduceMul, Nat.reduceSub, reduceCtorEq, Nat.reduceMod, Nat.reduceBEq, Int.reduceBEq, Int.reduceBNe, Int.reduceToNat]
        exact ⟨S3, fun _ _ h => h, hK S3⟩
      have d3 : (o.kind == 3) = false := beq_eq_false_iff_ne.2 k3
      simp -implicitDefEqProofs only [go_sem, ↓reduceIte, Nat.reduceEqDiff, Nat.reduceLT, Nat.reduceLeDiff, Nat.reduceAdd, Nat.reduceMul, Nat.reduceSub, reduceCtorEq, Nat.reduceMod, Nat.reduceBEq, Int.reduceBEq, Int.reduceBNe, Int.reduceToNat, e34, e35, e36, hlti, h0, Int.toNat_natCast, getD_encWs ho, d3]
      refine shortV_spec [⟨0, [], o⟩] _ _ ?_
      cases hso : shortV [⟨0, [], o⟩]
      · simp -implicitDefEqProofs only [go_sem, ↓reduceIte, Nat.reduceEqDiff, Nat.reduceLT, Nat.reduceLeDiff, Nat.reduceAdd, Nat.reduceMul, Nat.reduceSub, reduceCtorEq, Nat.reduceMod, Nat.reduceBEq, Int.reduceBEq, Int.reduceBNe, Int.reduceToNat, Bool.not_false]
        refine aw _ _ ?_
        intro S3
        simp -implicitDefEqProofs only [go_sem, ↓reduceIte, Nat.reduceEqDiff, Nat.reduceLT, Nat.reduceLeDiff, Nat.reduceAdd, Nat.reduceMul, Nat.reduceSub, reduceCtorEq, Nat.reduceMod, Nat.reduceBEq, Int.reduceBEq, Int.reduceBNe, Int.reduceToNat]
        refine hQ _ _ _ ?_
        simp -implicitDefEqProofs only [go_sem, ↓reduceIte, Nat.reduceEqDiff, Nat.reduceLT, Nat.reduceLeDiff, Nat.reduceAdd, Nat.reduceMul, Nat.reduceSub, reduceCtorEq, Nat.reduceMod, Nat.reduceBEq, Int.reduceBEq, Int.reduceBNe, Int.reduceToNat]
        exact ⟨S3, fun _ _ h => h, hK S3⟩
      cases hsn : same o.name w.name
      · simp -implicitDefEqProofs only [go_sem, ↓reduceIte, Nat.reduceEqDiff, Nat.reduceLT, Nat.reduceLeDiff, Nat.reduceAdd, Nat.reduceMul, Nat.reduceSub, reduceCtorEq, Nat.reduceMod, Nat.reduceBEq, Int.reduceBEq, Int.reduceBNe, Int.reduceToNat, e4, e7, Bool.not_true, Bool.not_false, hsn]
        have hTa := hT.a
        rw [List.append_nil] at hTa
        refine does_addU hTa ⟨4, [], o⟩ aw_o4 _ ?_
        intro S3 U hfr hU hvs
        have hn := hT.a.ne
        have hUl : U.length ≤ 1 := by
          have := congrArg List.length hU
          rw [List.length_map] at this
          split at this <;> simp only [List.length_cons, List.length_nil] at this <;> omega
        have hUm : ∀ u ∈ U, u.1 = o := by
          intro u hu
          have : u.1 ∈ U.map Prod.fst := List.mem_map.2 ⟨u, hu, rfl⟩
          rw [hU] at this
          split at this
          · simpa using this
          · cases this
        have hTn : Two S3 a1 a2 b1 b2 w [] (O ++ U) [] [] t .nil := by
          refine ⟨?_, hT.b.frame hT.n2 hT.n1 hT.n4 hT.n3 hT.a.vid_at hT.a.mid_at (fun id c h1 _ h => hfr id c h1 h), n1, n2, n3, n4, ?_, ?_, ?_, rfl⟩
          · rw [List.append_nil]
            refine ⟨⟨hfr _ _ hn hTa.km.1, hTa.km.2⟩, hTa.list, hvs, hTa.fit, hTa.len, ?_⟩
            rw [List.length_append]
            have := hT.few
            omega
          · intro u hu
            rcases List.mem_append.1 hu with hu | hu
            · exact hT.nos u hu
            · rw [hUm u hu]; exact k3
          · intro u hu
            rcases List.mem_append.1 hu with hu | hu
            · exact hT.unl u hu
            · rw [hUm u hu]; exact hsn
          · rw [List.length_append]
            omega
        simp -implicitDefEqProofs only [go_sem, ↓reduceIte, Nat.reduceEqDiff, Nat.reduceLT, Nat.reduceLeDiff, Nat.reduceAdd, Nat.reduceMul, Nat.reduceSub, reduceCtorEq, Nat.reduceMod, Nat.reduceBEq, Int.reduceBEq, Int.reduceBNe, Int.reduceToNat, e36, hw]
        refine vnext hJ hM S3 (fun _ _ h => h) ⟨k + 1, O ++ U, t, hlt, hTn, by rw [List.length_append]; omega, ?_, ?_, ?_, ?_, ?_, ?_, ?_⟩ ?_
        · simp -implicitDefEqProofs only [go_sem, ↓reduceIte, Nat.reduceEqDiff, Nat.reduceLT, Nat.reduceLeDiff, Nat.reduceAdd, Nat.reduceMul, Nat.reduceSub, reduceCtorEq, Nat.reduceMod, Nat.reduceBEq, Int.reduceBEq, Int.reduceBNe, Int.reduceToNat, e0]
        · unfold encW; simp -implicitDefEqProofs only [go_sem, ↓reduceIte, Nat.reduceEqDiff, Nat.reduceLT, Nat.reduceLeDiff, Nat.reduceAdd, Nat.reduceMul, Nat.reduceSub, reduceCtorEq, Nat.reduceMod, Nat.reduceBEq, Int.reduceBEq, Int.reduceBNe, Int.reduceToNat, e4]
        · simp -implicitDefEqProofs only [go_sem, ↓reduceIte, Nat.reduceEqDiff, Nat.reduceLT, Nat.reduceLeDiff, Nat.reduceAdd, Nat.reduceMul, Nat.reduceSub, reduceCtorEq, Nat.reduceMod, Nat.reduceBEq, Int.reduceBEq, Int.reduceBNe, Int.reduceToNat, e7]
        · simp -implicitDefEqProofs only [go_sem, ↓reduceIte, Nat.reduceEqDiff, Nat.reduceLT, Nat.reduceLeDiff, Nat.reduceAdd, Nat.reduceMul, Nat.reduceSub, reduceCtorEq, Nat.reduceMod, Nat.reduceBEq, Int.reduceBEq, Int.reduceBNe, Int.reduceToNat, e8]
        · simp -implicitDefEqProofs only [go_sem, ↓reduceIte, Nat.reduceEqDiff, Nat.reduceLT, Nat.reduceLeDiff, Nat.reduceAdd, Nat.reduceMul, Nat.reduceSub, reduceCtorEq, Nat.reduceMod, Nat.reduceBEq, Int.reduceBEq, Int.reduceBNe, Int.reduceToNat, e34]
        · simp -implicitDefEqProofs only [go_sem, ↓reduceIte, Nat.reduceEqDiff, Nat.reduceLT, Nat.reduceLeDiff, Nat.reduceAdd, Nat.reduceMul, Nat.reduceSub, reduceCtorEq, Nat.reduceMod, Nat.reduceBEq, Int.reduceBEq, Int.reduceBNe, Int.reduceToNat, e35]
        · simp -implicitDefEqProofs only [go_sem, ↓reduceIte, Nat.reduceEqDiff, Nat.reduceLT, Nat.reduceLeDiff, Nat.reduceAdd, Nat.reduceMul, Nat.reduceSub, reduceCtorEq, Nat.reduceMod, Nat.reduceBEq, Int.reduceBEq, Int.reduceBNe, Int.reduceToNat]
        · simp -implicitDefEqProofs only [go_sem, ↓reduceIte, Nat.reduceEqDiff, Nat.reduceLT, Nat.reduceLeDiff, Nat.reduceAdd, Nat.reduceMul, Nat.reduceSub, reduceCtorEq, Nat.reduceMod, Nat.reduceBEq, Int.reduceBEq, Int.reduceBNe, Int.reduceToNat, e36, Int.toNat_natCast]
          omega
      · simp -implicitDefEqProofs only [go_sem, ↓reduceIte, Nat.reduceEqDiff, Nat.reduceLT, Nat.reduceLeDiff, Nat.reduceAdd, Nat.reduceMul, Nat.reduceSub, reduceCtorEq, Nat.reduceMod, Nat.reduceBEq, Int.reduceBEq, Int.reduceBNe, Int.reduceToNat, e4, e7, Bool.not_true, Bool.not_false, Bool.false_eq_true, hsn, e36, hw]
        refine vnext hJ hM S' (fun _ _ h => h) ⟨k + 1, O, t, hlt, hT, by omega, ?_, ?_, ?_, ?_, ?_, ?_, ?_⟩ ?_
        · simp -implicitDefEqProofs only [go_sem, ↓reduceIte, Nat.reduceEqDiff, Nat.reduceLT, Nat.reduceLeDiff, Nat.reduceAdd, Nat.reduceMul, Nat.reduceSub, reduceCtorEq, Nat.reduceMod, Nat.reduceBEq, Int.reduceBEq, Int.reduceBNe, Int.reduceToNat, e0]
        · unfold encW; simp -implicitDefEqProofs only [go_sem, ↓reduceIte, Nat.reduceEqDiff, Nat.reduceLT, Nat.reduceLeDiff, Nat.reduceAdd, Nat.reduceMul, Nat.reduceSub, reduceCtorEq, Nat.reduceMod, Nat.reduceBEq, Int.reduceBEq, Int.reduceBNe, Int.reduceToNat, e4]
        · simp -implicitDefEqProofs only [go_sem, ↓reduceIte, Nat.reduceEqDiff, Nat.reduceLT, Nat.reduceLeDiff, Nat.reduceAdd, Nat.reduceMul, Nat.reduceSub, reduceCtorEq, Nat.reduceMod, Nat.reduceBEq, Int.reduceBEq, Int.reduceBNe, Int.reduceToNat, e7]
        · simp -implicitDefEqProofs only [go_sem, ↓reduceIte, Nat.reduceEqDiff, Nat.reduceLT, Nat.reduceLeDiff, Nat.reduceAdd, Nat.reduceMul, Nat.reduceSub, reduceCtorEq, Nat.reduceMod, Nat.reduceBEq, Int.reduceBEq, Int.reduceBNe, Int.reduceToNat, e8]
        · simp -implicitDefEqProofs only [go_sem, ↓reduceIte, Nat.reduceEqDiff, Nat.reduceLT, Nat.reduceLeDiff, Nat.reduceAdd, Nat.reduceMul, Nat.reduceSub, reduceCtorEq, Nat.reduceMod, Nat.reduceBEq, Int.reduceBEq, Int.reduceBNe, Int.reduceToNat, e34]
        · simp -implicitDefEqProofs only [go_sem, ↓reduceIte, Nat.reduceEqDiff, Nat.reduceLT, Nat.reduceLeDiff, Nat.reduceAdd, Nat.reduceMul, Nat.reduceSub, reduceCtorEq, Nat.reduceMod, Nat.reduceBEq, Int.reduceBEq, Int.reduceBNe, Int.reduceToNat, e35]
        · simp -implicitDefEqProofs only [go_sem, ↓reduceIte, Nat.reduceEqDiff, Nat.reduceLT, Nat.reduceLeDiff, Nat.reduceAdd, Nat.reduceMul, Nat.reduceSub, reduceCtorEq, Nat.reduceMod, Nat.reduceBEq, Int.reduceBEq, Int.reduceBNe, Int.reduceToNat]
        · simp -implicitDefEqProofs only [go_sem, ↓reduceIte, Nat.reduceEqDiff, Nat.reduceLT, Nat.reduceLeDiff, Nat.reduceAdd, Nat.reduceMul, Nat.reduceSub, reduceCtorEq, Nat.reduceMod, Nat.reduceBEq, Int.reduceBEq, Int.reduceBNe, Int.reduceToNat, e36, Int.toNat_natCast]
          omega
    · have hnl : ¬ (k : Int) < (others.length : Int) := by omega
      simp -implicitDefEqProofs only [go_sem, ↓reduceIte, Nat.reduceEqDiff, Nat.reduceLT, Nat.reduceLeDiff, Nat.reduceAdd, Nat.reduceMul, Nat.reduceSub, reduceCtorEq, Nat.reduceMod, Nat.reduceBEq, Int.reduceBEq, Int.reduceBNe, Int.reduceToNat, e35, e36, hnl]
      refine hQ _ _ _ ?_
      simp -implicitDefEqProofs only [go_sem, ↓reduceIte, Nat.reduceEqDiff, Nat.reduceLT, Nat.reduceLeDiff, Nat.reduceAdd, Nat.reduceMul, Nat.reduceSub, reduceCtorEq, Nat.reduceMod, Nat.reduceBEq, Int.reduceBEq, Int.reduceBNe, Int.reduceToNat]
      refine vwp_mix (n := 12) (fun k => k == 3 || k == 7) (fun k => k == 4 || k == 5) [0, 1, 2, 4, 5, 6, 3, 7, 8, 9] (by decide +kernel) ?_
      simp -implicitDefEqProofs only [go_sem, ↓reduceIte, Nat.reduceEqDiff, Nat.reduceLT, Nat.reduceLeDiff, Nat.reduceAdd, Nat.reduceMul, Nat.reduceSub, reduceCtorEq, Nat.reduceMod, Nat.reduceBEq, Int.reduceBEq, Int.reduceBNe, Int.reduceToNat, e4, e7, e8]
      have hTa := hT.a
      rw [List.append_nil] at hTa
      refine does_addU hTa ⟨4, [], w⟩ aw_o4 _ ?_
      intro S3 U hfr hU hvs
      have hae : addE w O [] = addE w [] [] := addE_unl hT.unl hT.few []
      dsimp only at hU ⊢
      rw [hae] at hU ⊢
      have hB3 : Ps S3 b1 b2 [] [] .nil := hT.b.frame hT.n2 hT.n1 hT.n4 hT.n3 hT.a.vid_at hT.a.mid_at (fun id c h1 _ h => hfr id c h1 h)
      simp -implicitDefEqProofs only [go_sem, ↓reduceIte, Nat.reduceEqDiff, Nat.reduceLT, Nat.reduceLeDiff, Nat.reduceAdd, Nat.reduceMul, Nat.reduceSub, reduceCtorEq, Nat.reduceMod, Nat.reduceBEq, Int.reduceBEq, Int.reduceBNe, Int.reduceToNat, e4, e8]
      refine does_addU hB3 ⟨4, [], w⟩ aw_o4 _ ?_
      intro S4 Z hfr4 hZ hvs4
      dsimp only at hZ ⊢
      rw [List.nil_append] at hvs4
      have hlen1 : ∀ Y : WT, Y.map Prod.fst = (if addE w [] [] = 0 then [w] else []) → Y.length ≤ 1 := by
        intro Y hY
        have := congrArg List.length hY
        rw [List.length_map] at this
        split at this <;> simp only [List.length_cons, List.length_nil] at this <;> omega
      have hA3 : Ps S3 a1 a2 [] (O ++ U) t := ⟨⟨hfr _ _ hTa.ne hTa.km.1, hTa.km.2⟩, hTa.list, hvs, hTa.fit, hTa.len, by rw [List.length_append]; have := hT.few; have := hlen1 U hU; omega⟩
      have hT4 : Two S4 a1 a2 b1 b2 w [] O U Z t .nil := ⟨hA3.frame (Ne.symm n3) (Ne.symm n3) (Ne.symm n4) (Ne.symm n4) hB3.vid_at hB3.vid_at (fun id c h1 _ h => hfr4 id c h1 h), ⟨⟨hfr4 _ _ hB3.ne hB3.km.1, hB3.km.2⟩, hB3.list, hvs4, hB3.fit, hB3.len, by have := hlen1 Z hZ; omega⟩, n1, n2, n3, n4, hT.nos, hT.unl, hT.few, by rw [hU, hZ]⟩
      have hUZ : (U.map Prod.fst = [w] ∨ U.map Prod.fst = []) := by
        rw [hU]
        split
        · exact .inl rfl
        · exact .inr rfl
      clear hA3 hB3 hvs hvs4 hfr hfr4 hT hTa hZ hlen1 hae
      simp -implicitDefEqProofs only [go_sem, ↓reduceIte, Nat.reduceEqDiff, Nat.reduceLT, Nat.reduceLeDiff, Nat.reduceAdd, Nat.reduceMul, Nat.reduceSub, reduceCtorEq, Nat.reduceMod, Nat.reduceBEq, Int.reduceBEq, Int.reduceBNe, Int.reduceToNat, neI, Bool.false_eq_true, e0, e4, e7, e8]
      refine vloop (fun e S' => ∃ (k : Nat) (L : List Pr) (O U Z : WT) (t u : V.T), k ≤ l.length ∧ Two S' a1 a2 b1 b2 w L O U Z t u ∧ (U.map Prod.fst = [w] ∨ U.map Prod.fst = []) ∧ L.length ≤ 6 * k ∧
        e 4 = .ip (encW w) 0 ∧ e 7 = .ip [.ref a1 0, .ref a2 0] 0 ∧ e 8 = .ip [.ref b1 0, .ref b2 0] 0 ∧ e 72 = .sl .no 6 (encDvs l) ∧ e 73 = .int .i64 l.length ∧ e 74 = .int .i64 k) (fun e _ => l.length - iv (e 74)) ?_ ?_
      · exact ⟨0, [], O, U, Z, t, .nil, Nat.zero_le _, hT4, hUZ, Nat.zero_le _, by unfold encW; simp -implicitDefEqProofs only [go_sem, ↓reduceIte, Nat.reduceEqDiff, Nat.reduceLT, Nat.reduceLeDiff, Nat.reduceAdd, Nat.reduceMul, Nat.reduceSub, reduceCtorEq, Nat.reduceMod, Nat.reduceBEq, Int.reduceBEq, Int.reduceBNe, Int.reduceToNat, e4], by simp -implicitDefEqProofs only [go_sem, ↓reduceIte, Nat.reduceEqDiff, Nat.reduceLT, Nat.reduceLeDiff, Nat.reduceAdd, Nat.reduceMul, Nat.reduceSub, reduceCtorEq, Nat.reduceMod, Nat.reduceBEq, Int.reduceBEq, Int.reduceBNe, Int.reduceToNat, e7], by simp -implicitDefEqProofs only [go_sem, ↓reduceIte, Nat.reduceEqDiff, Nat.reduceLT, Nat.reduceLeDiff, Nat.reduceAdd, Nat.reduceMul, Nat.reduceSub, reduceCtorEq, Nat.reduceMod, Nat.reduceBEq, Int.reduceBEq, Int.reduceBNe, Int.reduceToNat, e8], by simp -implicitDefEqProofs only [go_sem, ↓reduceIte, Nat.reduceEqDiff, Nat.reduceLT, Nat.reduceLeDiff, Nat.reduceAdd, Nat.reduceMul, Nat.reduceSub, reduceCtorEq, Nat.reduceMod, Nat.reduceBEq, Int.reduceBEq, Int.reduceBNe, Int.reduceToNat, e0], by simp -implicitDefEqProofs only [go_sem, ↓reduceIte, Nat.reduceEqDiff, Nat.reduceLT, Nat.reduceLeDiff, Nat.reduceAdd, Nat.reduceMul, Nat.reduceSub, reduceCtorEq, Nat.reduceMod, Nat.reduceBEq, Int.reduceBEq, Int.reduceBNe, Int.reduceToNat], by simp -implicitDefEqProofs only [go_sem, ↓reduceIte, Nat.reduceEqDiff, Nat.reduceLT, Nat.reduceLeDiff, Nat.reduceAdd, Nat.reduceMul, Nat.reduceSub, reduceCtorEq, Nat.reduceMod, Nat.reduceBEq, Int.reduceBEq, Int.reduceBNe, Int.reduceToNat]⟩
      · clear e4 e7 e8 e0 e34 e35 e36 hT4 hUZ hU
        rintro J2 M2 Q2 hJ2 hM2 hQ2 e S' ⟨k, L, O, U, Z, t, u, hk, hT, hUZ, hL, e4, e7, e8, e72, e73, e74⟩
        unfold encW at e4
        by_cases hlt : k < l.length
        · obtain ⟨d, hd⟩ : ∃ d, l[k]? = some d := ⟨l[k], List.getElem?_eq_getElem hlt⟩
          have hlti : (k : Int) < (l.length : Int) := by omega
          have h0 : (0 : Int) ≤ (k : Int) ∧ (k : Int) < (l.length : Int) := by omega
          have hw : IntKind.i64.wrap ((k : Int) + 1) = ((k + 1 : Nat) : Int) := wrap64 (by omega) (by omega)
          by_cases hop : opV d.op < 4
          · have hop' : IntKind.i64.wrap ((IntKind.u64.wrap d.op).tmod 8) < 4 := hop
            have hdO := hO d (List.mem_of_getElem? hd)
            simp -implicitDefEqProofs only [go_sem, ↓reduceIte, Nat.reduceEqDiff, Nat.reduceLT, Nat.reduceLeDiff, Nat.reduceAdd, Nat.reduceMul, Nat.reduceSub, reduceCtorEq, Nat.reduceMod, Nat.reduceBEq, Int.reduceBEq, Int.reduceBNe, Int.reduceToNat, e72, e73, e74, hlti, h0, Int.toNat_natCast, getD_encDvs hd]
            refine vwp_mix (n := 18) (fun k => k == 9 || k == 12) (fun k => k == 10 || k == 11) [0, 1, 2, 3, 4, 5, 6, 7, 8, 10, 11, 9, 12, 13, 14] (by decide +kernel) ?_
            simp -implicitDefEqProofs only [go_sem, ↓reduceIte, Nat.reduceEqDiff, Nat.reduceLT, Nat.reduceLeDiff, Nat.reduceAdd, Nat.reduceMul, Nat.reduceSub, reduceCtorEq, Nat.reduceMod, Nat.reduceBEq, Int.reduceBEq, Int.reduceBNe, Int.reduceToNat, e7, e8, remV8, hop']
            refine does_opsU hT.a d hop hdO (by omega) _ ?_
            intro S5 N t5 hfr5 hN hA5
            obtain ⟨O5, U5, rfl, hO5, hU5⟩ := split_fst hN
            have hB5 : Ps S5 b1 b2 L Z u := hT.b.frame hT.n2 hT.n1 hT.n4 hT.n3 hT.a.vid_at hT.a.mid_at hfr5
            simp -implicitDefEqProofs only [go_sem, ↓reduceIte, Nat.reduceEqDiff, Nat.reduceLT, Nat.reduceLeDiff, Nat.reduceAdd, Nat.reduceMul, Nat.reduceSub, reduceCtorEq, Nat.reduceMod, Nat.reduceBEq, Int.reduceBEq, Int.reduceBNe, Int.reduceToNat]
            refine does_opsU hB5 d hop hdO (by omega) _ ?_
            intro S6 N6 t6 hfr6 hN6 hB6
            have hta : ∀ P, takeE (O ++ U) P = takeE Z P := fun P => by rw [takeE_nos hT.nos, takeE_fst hT.fst]
            have hoe : opsE (O ++ U) L d.ops = opsE Z L d.ops := by unfold opsE; rw [hta]
            have hom : opsM (O ++ U) L d.ops = opsM Z L d.ops := by unfold opsM; rw [hoe]
            rw [hom] at hA5
            have hT6 : Two S6 a1 a2 b1 b2 w (opsM Z L d.ops) O5 U5 N6 t5 t6 := ⟨hA5.frame (Ne.symm n3) (Ne.symm n1) (Ne.symm n4) (Ne.symm n2) hB5.vid_at hB5.mid_at hfr6, hB6, n1, n2, n3, n4, hT.nos.fst hO5, hT.unl.fst hO5, by
              have := congrArg List.length hO5
              rw [List.length_map, List.length_map] at this
              have := hT.few
              omega, by rw [hU5, hN6, hT.fst]⟩
            have hse : Sorted L := hT.b.list ▸ hT.b.km.2.2
            have hml := opsM_len (T := Z) hse d.ops
            rw [hoe]
            simp -implicitDefEqProofs only [go_sem, ↓reduceIte, Nat.reduceEqDiff, Nat.reduceLT, Nat.reduceLeDiff, Nat.reduceAdd, Nat.reduceMul, Nat.reduceSub, reduceCtorEq, Nat.reduceMod, Nat.reduceBEq, Int.reduceBEq, Int.reduceBNe, Int.reduceToNat, neI, Bool.false_eq_true, e74, hw]
            refine vnext hJ2 hM2 S6 (fun _ _ h => h) ⟨k + 1, opsM Z L d.ops, O5, U5, N6, t5, t6, hlt, hT6, by rw [hU5]; exact hUZ, by omega, ?_, ?_, ?_, ?_, ?_, ?_⟩ ?_
            · unfold encW; simp -implicitDefEqProofs only [go_sem, ↓reduceIte, Nat.reduceEqDiff, Nat.reduceLT, Nat.reduceLeDiff, Nat.reduceAdd, Nat.reduceMul, Nat.reduceSub, reduceCtorEq, Nat.reduceMod, Nat.reduceBEq, Int.reduceBEq, Int.reduceBNe, Int.reduceToNat, e4]
            · simp -implicitDefEqProofs only [go_sem, ↓reduceIte, Nat.reduceEqDiff, Nat.reduceLT, Nat.reduceLeDiff, Nat.reduceAdd, Nat.reduceMul, Nat.reduceSub, reduceCtorEq, Nat.reduceMod, Nat.reduceBEq, Int.reduceBEq, Int.reduceBNe, Int.reduceToNat, e7]
            · simp -implicitDefEqProofs only [go_sem, ↓reduceIte, Nat.reduceEqDiff, Nat.reduceLT, Nat.reduceLeDiff, Nat.reduceAdd, Nat.reduceMul, Nat.reduceSub, reduceCtorEq, Nat.reduceMod, Nat.reduceBEq, Int.reduceBEq, Int.reduceBNe, Int.reduceToNat, e8]
            · simp -implicitDefEqProofs only [go_sem, ↓reduceIte, Nat.reduceEqDiff, Nat.reduceLT, Nat.reduceLeDiff, Nat.reduceAdd, Nat.reduceMul, Nat.reduceSub, reduceCtorEq, Nat.reduceMod, Nat.reduceBEq, Int.reduceBEq, Int.reduceBNe, Int.reduceToNat, e72]
            · simp -implicitDefEqProofs only [go_sem, ↓reduceIte, Nat.reduceEqDiff, Nat.reduceLT, Nat.reduceLeDiff, Nat.reduceAdd, Nat.reduceMul, Nat.reduceSub, reduceCtorEq, Nat.reduceMod, Nat.reduceBEq, Int.reduceBEq, Int.reduceBNe, Int.reduceToNat, e73]
            · simp -implicitDefEqProofs only [go_sem, ↓reduceIte, Nat.reduceEqDiff, Nat.reduceLT, Nat.reduceLeDiff, Nat.reduceAdd, Nat.reduceMul, Nat.reduceSub, reduceCtorEq, Nat.reduceMod, Nat.reduceBEq, Int.reduceBEq, Int.reduceBNe, Int.reduceToNat]
            · simp -implicitDefEqProofs only [go_sem, ↓reduceIte, Nat.reduceEqDiff, Nat.reduceLT, Nat.reduceLeDiff, Nat.reduceAdd, Nat.reduceMul, Nat.reduceSub, reduceCtorEq, Nat.reduceMod, Nat.reduceBEq, Int.reduceBEq, Int.reduceBNe, Int.reduceToNat, e74, Int.toNat_natCast]
              omega
          · have hop' : ¬ IntKind.i64.wrap ((IntKind.u64.wrap d.op).tmod 8) < 4 := hop
            simp -implicitDefEqProofs only [go_sem, ↓reduceIte, Nat.reduceEqDiff, Nat.reduceLT, Nat.reduceLeDiff, Nat.reduceAdd, Nat.reduceMul, Nat.reduceSub, reduceCtorEq, Nat.reduceMod, Nat.reduceBEq, Int.reduceBEq, Int.reduceBNe, Int.reduceToNat, e72, e73, e74, hlti, h0, Int.toNat_natCast, getD_encDvs hd]
            refine vwp_mix (n := 18) (fun k => k == 9 || k == 12) (fun k => k == 10 || k == 11) [0, 1, 2, 3, 4, 5, 6, 7, 8, 10, 11, 9, 12, 13, 14] (by decide +kernel) ?_
            simp -implicitDefEqProofs only [go_sem, ↓reduceIte, Nat.reduceEqDiff, Nat.reduceLT, Nat.reduceLeDiff, Nat.reduceAdd, Nat.reduceMul, Nat.reduceSub, reduceCtorEq, Nat.reduceMod, Nat.reduceBEq, Int.reduceBEq, Int.reduceBNe, Int.reduceToNat, remV8, hop', Bool.false_eq_true, e74, hw]
            refine vnext hJ2 hM2 S' (fun _ _ h => h) ⟨k + 1, L, O, U, Z, t, u, hlt, hT, hUZ, by omega, ?_, ?_, ?_, ?_, ?_, ?_⟩ ?_
            · unfold encW; simp -implicitDefEqProofs only [go_sem, ↓reduceIte, Nat.reduceEqDiff, Nat.reduceLT, Nat.reduceLeDiff, Nat.reduceAdd, Nat.reduceMul, Nat.reduceSub, reduceCtorEq, Nat.reduceMod, Nat.reduceBEq, Int.reduceBEq, Int.reduceBNe, Int.reduceToNat, e4]
            · simp -implicitDefEqProofs only [go_sem, ↓reduceIte, Nat.reduceEqDiff, Nat.reduceLT, Nat.reduceLeDiff, Nat.reduceAdd, Nat.reduceMul, Nat.reduceSub, reduceCtorEq, Nat.reduceMod, Nat.reduceBEq, Int.reduceBEq, Int.reduceBNe, Int.reduceToNat, e7]
            · simp -implicitDefEqProofs only [go_sem, ↓reduceIte, Nat.reduceEqDiff, Nat.reduceLT, Nat.reduceLeDiff, Nat.reduceAdd, Nat.reduceMul, Nat.reduceSub, reduceCtorEq, Nat.reduceMod, Nat.reduceBEq, Int.reduceBEq, Int.reduceBNe, Int.reduceToNat, e8]
            · simp -implicitDefEqProofs only [go_sem, ↓reduceIte, Nat.reduceEqDiff, Nat.reduceLT, Nat.reduceLeDiff, Nat.reduceAdd, Nat.reduceMul, Nat.reduceSub, reduceCtorEq, Nat.reduceMod, Nat.reduceBEq, Int.reduceBEq, Int.reduceBNe, Int.reduceToNat, e72]
            · simp -implicitDefEqProofs only [go_sem, ↓reduceIte, Nat.reduceEqDiff, Nat.reduceLT, Nat.reduceLeDiff, Nat.reduceAdd, Nat.reduceMul, Nat.reduceSub, reduceCtorEq, Nat.reduceMod, Nat.reduceBEq, Int.reduceBEq, Int.reduceBNe, Int.reduceToNat, e73]
            · simp -implicitDefEqProofs only [go_sem, ↓reduceIte, Nat.reduceEqDiff, Nat.reduceLT, Nat.reduceLeDiff, Nat.reduceAdd, Nat.reduceMul, Nat.reduceSub, reduceCtorEq, Nat.reduceMod, Nat.reduceBEq, Int.reduceBEq, Int.reduceBNe, Int.reduceToNat]
            · simp -implicitDefEqProofs only [go_sem, ↓reduceIte, Nat.reduceEqDiff, Nat.reduceLT, Nat.reduceLeDiff, Nat.reduceAdd, Nat.reduceMul, Nat.reduceSub, reduceCtorEq, Nat.reduceMod, Nat.reduceBEq, Int.reduceBEq, Int.reduceBNe, Int.reduceToNat, e74, Int.toNat_natCast]
              omega
        · have hnl : ¬ (k : Int) < (l.length : Int) := by omega
          simp -implicitDefEqProofs only [go_sem, ↓reduceIte, Nat.reduceEqDiff, Nat.reduceLT, Nat.reduceLeDiff, Nat.reduceAdd, Nat.reduceMul, Nat.reduceSub, reduceCtorEq, Nat.reduceMod, Nat.reduceBEq, Int.reduceBEq, Int.reduceBNe, Int.reduceToNat, e73, e74, hnl]
          refine hQ2 _ _ _ ?_
          have hnd : (L.map Prod.fst).Nodup := sorted_nodup (hT.b.list ▸ hT.b.km.2.2)
          have hL4 : L.length ≤ 400000 := hT.b.len
          rcases hUZ with hU | hU
          · obtain ⟨ga, rfl⟩ : ∃ g, U = [(w, g)] := by
              match U, hU with
              | [(a, b)], h => simp at h; exact ⟨b, by rw [h]⟩
            have hZ := hT.fst
            obtain ⟨gb, rfl⟩ : ∃ g, Z = [(w, g)] := by
              match Z, hZ with
              | [(a, b)], h => simp at h; exact ⟨b, by rw [h]⟩
            have hwa : whereF w.name (O ++ [(w, ga)]) 0 = ((O.length : Nat) : Int) := by
              rw [where_unl hT.unl]
              show (if same w.name w.name = true then ((0 + O.length : Nat) : Int) else _) = _
              rw [if_pos (same_refl _), Nat.zero_add]
            simp -implicitDefEqProofs only [go_sem, ↓reduceIte, Nat.reduceEqDiff, Nat.reduceLT, Nat.reduceLeDiff, Nat.reduceAdd, Nat.reduceMul, Nat.reduceSub, reduceCtorEq, Nat.reduceMod, Nat.reduceBEq, Int.reduceBEq, Int.reduceBNe, Int.reduceToNat, e4, e7]
            refine VRows_at hT.a.vs hT.a.few (by omega) hT.a.fit hnd w.name hwa (t := (w, ga)) (by simp) _ ?_
            simp -implicitDefEqProofs only [go_sem, ↓reduceIte, Nat.reduceEqDiff, Nat.reduceLT, Nat.reduceLeDiff, Nat.reduceAdd, Nat.reduceMul, Nat.reduceSub, reduceCtorEq, Nat.reduceMod, Nat.reduceBEq, Int.reduceBEq, Int.reduceBNe, Int.reduceToNat, e4, e8]
            refine VRows_at hT.b.vs hT.b.few (by omega) hT.b.fit hnd w.name (where_one w gb) (t := (w, gb)) rfl _ ?_
            simp -implicitDefEqProofs only [go_sem, ↓reduceIte, Nat.reduceEqDiff, Nat.reduceLT, Nat.reduceLeDiff, Nat.reduceAdd, Nat.reduceMul, Nat.reduceSub, reduceCtorEq, Nat.reduceMod, Nat.reduceBEq, Int.reduceBEq, Int.reduceBNe, Int.reduceToNat]
            refine Same_spec (rowsOf w L) (by have := rowsOf_len w L; omega) (fun r hr => by have := rowsOf_keys w L r hr; omega) _ _ ?_
            simp -implicitDefEqProofs only [go_sem, ↓reduceIte, Nat.reduceEqDiff, Nat.reduceLT, Nat.reduceLeDiff, Nat.reduceAdd, Nat.reduceMul, Nat.reduceSub, reduceCtorEq, Nat.reduceMod, Nat.reduceBEq, Int.reduceBEq, Int.reduceBNe, Int.reduceToNat, c0]
            refine aw _ _ ?_
            intro S5
            simp -implicitDefEqProofs only [go_sem, ↓reduceIte, Nat.reduceEqDiff, Nat.reduceLT, Nat.reduceLeDiff, Nat.reduceAdd, Nat.reduceMul, Nat.reduceSub, reduceCtorEq, Nat.reduceMod, Nat.reduceBEq, Int.reduceBEq, Int.reduceBNe, Int.reduceToNat]
            exact ⟨S5, fun _ _ h => h, hK S5⟩
          · have hU0 : U = [] := by simpa using hU
            subst hU0
            have hZ0 : Z = [] := by have := hT.fst; simpa using this.symm
            subst hZ0
            have hwa : whereF w.name (O ++ []) 0 = -1 := by rw [where_unl hT.unl]; rfl
            simp -implicitDefEqProofs only [go_sem, ↓reduceIte, Nat.reduceEqDiff, Nat.reduceLT, Nat.reduceLeDiff, Nat.reduceAdd, Nat.reduceMul, Nat.reduceSub, reduceCtorEq, Nat.reduceMod, Nat.reduceBEq, Int.reduceBEq, Int.reduceBNe, Int.reduceToNat, e4, e7]
            refine VRows_none hT.a.vs hT.a.few w.name hwa _ ?_
            simp -implicitDefEqProofs only [go_sem, ↓reduceIte, Nat.reduceEqDiff, Nat.reduceLT, Nat.reduceLeDiff, Nat.reduceAdd, Nat.reduceMul, Nat.reduceSub, reduceCtorEq, Nat.reduceMod, Nat.reduceBEq, Int.reduceBEq, Int.reduceBNe, Int.reduceToNat, e4, e8]
            refine VRows_none hT.b.vs hT.b.few w.name rfl _ ?_
            simp -implicitDefEqProofs only [go_sem, ↓reduceIte, Nat.reduceEqDiff, Nat.reduceLT, Nat.reduceLeDiff, Nat.reduceAdd, Nat.reduceMul, Nat.reduceSub, reduceCtorEq, Nat.reduceMod, Nat.reduceBEq, Int.reduceBEq, Int.reduceBNe, Int.reduceToNat]
            refine Same_spec [] (by decide) (fun r hr => by cases hr) _ _ ?_
            have c71 : ((71 : Int) == 71) = true := rfl
            simp -implicitDefEqProofs only [go_sem, ↓reduceIte, Nat.reduceEqDiff, Nat.reduceLT, Nat.reduceLeDiff, Nat.reduceAdd, Nat.reduceMul, Nat.reduceSub, reduceCtorEq, Nat.reduceMod, Nat.reduceBEq, Int.reduceBEq, Int.reduceBNe, Int.reduceToNat, c71]
            refine aw _ _ ?_
            intro S5
            simp -implicitDefEqProofs only [go_sem, ↓reduceIte, Nat.reduceEqDiff, Nat.reduceLT, Nat.reduceLeDiff, Nat.reduceAdd, Nat.reduceMul, Nat.reduceSub, reduceCtorEq, Nat.reduceMod, Nat.reduceBEq, Int.reduceBEq, Int.reduceBNe, Int.reduceToNat]
            exact ⟨S5, fun _ _ h => h, hK S5⟩
end Go.Proofs.Ytdioedabjaaboaa.V
