/- Views: kept views tell what late ones tell. -/
import Derived.Test.YtdioedabjaaboaaXU
set_option linter.unusedVariables false
set_option linter.unusedSimpArgs false
namespace Go.Proofs.Ytdioedabjaaboaa.V
open Go Go.VL

theorem rowsOf_len (w : Wv) (L : List Pr) : (rowsOf w L).length ≤ L.length := by
  unfold rowsOf
  rw [List.length_map, len_sortB]
  exact groups_len w L
theorem rowsOf_keys (w : Wv) (L : List Pr) : ∀ r ∈ rowsOf w L, r.keys.length ≤ L.length := by
  intro r hr
  unfold rowsOf at hr
  obtain ⟨g, _, rfl⟩ := List.mem_map.1 hr
  unfold rowOf
  dsimp only
  split
  · rw [len_sortB, List.length_map]; exact List.length_filter_le _ _
  · exact Nat.zero_le _
theorem addE_ok {w : Wv} {T : WT} {L : List Pr} (h : addE w T L = 0) : vcheck w = 0 ∧ fitsQ w L = true := by
  unfold addE at h
  split at h
  · rename_i h0
    split at h
    · split at h
      · split at h
        · rename_i hf; exact ⟨h0, hf⟩
        · cases h
      · cases h
    · cases h
  · rename_i h0; exact absurd h h0
theorem addE_new {w : Wv} {L : List Pr} (h0 : vcheck w = 0) (hf : fitsQ w L = true) : addE w [] L = 0 := by
  unfold addE
  rw [if_pos h0, if_pos (by unfold whereF; decide), if_pos (by decide), if_pos hf]
theorem where_one (w : Wv) (g : Nat) : whereF w.name [(w, g)] 0 = ((0 : Nat) : Int) := by
  show (if same w.name w.name = true then ((0 : Nat) : Int) else _) = _
  rw [if_pos (same_refl _)]
theorem takeE_one {w : Wv} {g : Nat} {P : List Pr} (h : takeE [(w, g)] P = 0) : fitsQ w P = true := by
  cases hf : fitsQ w P with
  | true => rfl
  | false =>
    rw [takeE_no (k := 0) (t := (w, g)) rfl hf] at h
    cases h
set_option maxHeartbeats 8000000 in
theorem kept_law (l : List DV) (w : Wv) (hl : l.length ≤ 1599289640354) (S : Store) (K : PV → Store → Prop) (hK : ∀ S', K (.bool true) S') : PCalls Try.prog 3 [.sl .no 6 (encDvs l), .agg (encW w)] S K := by
  refine pcalls_of (C := C) (fun _ => false) (fun _ => false) Try.func3 rfl rfl (by simp [Try.f3]) ?_
  unfold encW
  have hap : (1 + l.length) * 88 ≤ 140737488355328 ∧ 1 + l.length ≤ 140737488355328 := by omega
  have hcons : [[PV.int .i64 0, .sl .no 3 [], .str w.name, .int .i64 w.kind, .str w.field, .str w.of_]] ++ encDvs l = encDvs (⟨0, [], w⟩ :: l) := rfl
  simp -implicitDefEqProofs only [go_sem, ↓reduceIte, Nat.reduceEqDiff, Nat.reduceLT, Nat.reduceLeDiff, Nat.reduceAdd, Nat.reduceMul, Nat.reduceSub, reduceCtorEq, Nat.reduceMod, Nat.reduceBEq, Int.reduceBEq, Int.reduceBNe, Int.reduceToNat, Try.f3, List.length_cons, List.length_nil, Nat.zero_add, hap]
  refine shortV_spec (⟨0, [], w⟩ :: l) _ _ ?_
  cases hs : shortV (⟨0, [], w⟩ :: l)
  · simp -implicitDefEqProofs only [go_sem, ↓reduceIte, Nat.reduceEqDiff, Nat.reduceLT, Nat.reduceLeDiff, Nat.reduceAdd, Nat.reduceMul, Nat.reduceSub, reduceCtorEq, Nat.reduceMod, Nat.reduceBEq, Int.reduceBEq, Int.reduceBNe, Int.reduceToNat, Bool.not_false]
    refine vawake_calls _ _ ?_
    intro S' _
    simp -implicitDefEqProofs only [go_sem, ↓reduceIte, Nat.reduceEqDiff, Nat.reduceLT, Nat.reduceLeDiff, Nat.reduceAdd, Nat.reduceMul, Nat.reduceSub, reduceCtorEq, Nat.reduceMod, Nat.reduceBEq, Int.reduceBEq, Int.reduceBNe, Int.reduceToNat]
    exact ⟨S', fun _ _ h => h, hK S'⟩
  obtain ⟨hs1, hs2⟩ := shortV_fit hs
  simp only [List.length_cons] at hs1
  have hO : ∀ d ∈ l, FitO d.ops := fun d hd => (weighV_all (hs2 d (List.mem_cons_of_mem _ hd))).2
  simp -implicitDefEqProofs only [go_sem, ↓reduceIte, Nat.reduceEqDiff, Nat.reduceLT, Nat.reduceLeDiff, Nat.reduceAdd, Nat.reduceMul, Nat.reduceSub, reduceCtorEq, Nat.reduceMod, Nat.reduceBEq, Int.reduceBEq, Int.reduceBNe, Int.reduceToNat, Bool.not_true, Bool.false_eq_true]
  refine begun_calls S _ ?_
  intro S1 mid vid hsub hmid hvid h1
  unfold encPair
  simp -implicitDefEqProofs only [go_sem, ↓reduceIte, Nat.reduceEqDiff, Nat.reduceLT, Nat.reduceLeDiff, Nat.reduceAdd, Nat.reduceMul, Nat.reduceSub, reduceCtorEq, Nat.reduceMod, Nat.reduceBEq, Int.reduceBEq, Int.reduceBNe, Int.reduceToNat]
  refine does_add h1 ⟨4, [], w⟩ aw_o4 _ ?_ ?_
  · intro S2 _ hne
    have d0 : (addE w [] [] != 0) = true := by simpa using hne
    simp -implicitDefEqProofs only [go_sem, ↓reduceIte, Nat.reduceEqDiff, Nat.reduceLT, Nat.reduceLeDiff, Nat.reduceAdd, Nat.reduceMul, Nat.reduceSub, reduceCtorEq, Nat.reduceMod, Nat.reduceBEq, Int.reduceBEq, Int.reduceBNe, Int.reduceToNat, d0]
    refine vawake_calls _ _ ?_
    intro S' _
    simp -implicitDefEqProofs only [go_sem, ↓reduceIte, Nat.reduceEqDiff, Nat.reduceLT, Nat.reduceLeDiff, Nat.reduceAdd, Nat.reduceMul, Nat.reduceSub, reduceCtorEq, Nat.reduceMod, Nat.reduceBEq, Int.reduceBEq, Int.reduceBNe, Int.reduceToNat]
    exact ⟨S', fun _ _ h => h, hK S'⟩
  intro S2 gid hfr2 hadd hvs2
  have hne := h1.ne
  obtain ⟨hvc, hft0⟩ := addE_ok hadd
  have h2 : Ps S2 mid vid [] [(w, gid)] .nil := ⟨⟨hfr2 _ _ hne h1.km.1, h1.km.2⟩, rfl, hvs2, fun p hp => (by cases hp), by decide, (show 1 ≤ 1000000 by decide)⟩
  simp -implicitDefEqProofs only [go_sem, ↓reduceIte, Nat.reduceEqDiff, Nat.reduceLT, Nat.reduceLeDiff, Nat.reduceAdd, Nat.reduceMul, Nat.reduceSub, reduceCtorEq, Nat.reduceMod, Nat.reduceBEq, Int.reduceBEq, Int.reduceBNe, Int.reduceToNat, n0, Bool.false_eq_true]
  refine vloop (fun e S' => ∃ (k : Nat) (L : List Pr) (g : Nat) (t : V.T), k ≤ l.length ∧ Ps S' mid vid L [(w, g)] t ∧ L.length ≤ 6 * k ∧ fitsQ w L = true ∧
    e 3 = .ip [.str w.name, .int .i64 w.kind, .str w.field, .str w.of_] 0 ∧ e 5 = .ip [.ref mid 0, .ref vid 0] 0 ∧ e 29 = .sl .no 6 (encDvs l) ∧ e 30 = .int .i64 l.length ∧ e 31 = .int .i64 k) (fun e _ => l.length - iv (e 31)) ?_ ?_
  · exact ⟨0, [], gid, .nil, Nat.zero_le _, h2, Nat.zero_le _, hft0, rfl, rfl, rfl, rfl, rfl⟩
  · rintro J M Q' hJ hM hQ e S' ⟨k, L, g, t, hk, hp, hL, hft, e3, e5, e29, e30, e31⟩
    by_cases hlt : k < l.length
    · obtain ⟨d, hd⟩ : ∃ d, l[k]? = some d := ⟨l[k], List.getElem?_eq_getElem hlt⟩
      have hlti : (k : Int) < (l.length : Int) := by omega
      have h0 : (0 : Int) ≤ (k : Int) ∧ (k : Int) < (l.length : Int) := by omega
      have hw : IntKind.i64.wrap ((k : Int) + 1) = ((k + 1 : Nat) : Int) := wrap64 (by omega) (by omega)
      by_cases hop : opV d.op < 4
      · have hop' : IntKind.i64.wrap ((IntKind.u64.wrap d.op).tmod 8) < 4 := hop
        simp -implicitDefEqProofs only [go_sem, ↓reduceIte, Nat.reduceEqDiff, Nat.reduceLT, Nat.reduceLeDiff, Nat.reduceAdd, Nat.reduceMul, Nat.reduceSub, reduceCtorEq, Nat.reduceMod, Nat.reduceBEq, Int.reduceBEq, Int.reduceBNe, Int.reduceToNat, e5, e29, e30, e31, hlti, h0, Int.toNat_natCast, getD_encDvs hd, remV8, hop']
        have hse : Sorted L := hp.list ▸ hp.km.2.2
        have hdl := (doF_ok hse 1 [] d.ops).2
        refine does_ops hp d hop (hO d (List.mem_of_getElem? hd)) _ ?_ ?_ ?_
        · intro _
          simp -implicitDefEqProofs only [go_sem, ↓reduceIte, Nat.reduceEqDiff, Nat.reduceLT, Nat.reduceLeDiff, Nat.reduceAdd, Nat.reduceMul, Nat.reduceSub, reduceCtorEq, Nat.reduceMod, Nat.reduceBEq, Int.reduceBEq, Int.reduceBNe, Int.reduceToNat, e31, hw]
          refine vnext hJ hM S' (fun _ _ h => h) ⟨k + 1, L, g, t, hlt, hp, ?_, hft, ?_, ?_, ?_, ?_, ?_⟩ ?_
          · omega
          · simp -implicitDefEqProofs only [go_sem, ↓reduceIte, Nat.reduceEqDiff, Nat.reduceLT, Nat.reduceLeDiff, Nat.reduceAdd, Nat.reduceMul, Nat.reduceSub, reduceCtorEq, Nat.reduceMod, Nat.reduceBEq, Int.reduceBEq, Int.reduceBNe, Int.reduceToNat, e3]
          · simp -implicitDefEqProofs only [go_sem, ↓reduceIte, Nat.reduceEqDiff, Nat.reduceLT, Nat.reduceLeDiff, Nat.reduceAdd, Nat.reduceMul, Nat.reduceSub, reduceCtorEq, Nat.reduceMod, Nat.reduceBEq, Int.reduceBEq, Int.reduceBNe, Int.reduceToNat, e5]
          · simp -implicitDefEqProofs only [go_sem, ↓reduceIte, Nat.reduceEqDiff, Nat.reduceLT, Nat.reduceLeDiff, Nat.reduceAdd, Nat.reduceMul, Nat.reduceSub, reduceCtorEq, Nat.reduceMod, Nat.reduceBEq, Int.reduceBEq, Int.reduceBNe, Int.reduceToNat, e29]
          · simp -implicitDefEqProofs only [go_sem, ↓reduceIte, Nat.reduceEqDiff, Nat.reduceLT, Nat.reduceLeDiff, Nat.reduceAdd, Nat.reduceMul, Nat.reduceSub, reduceCtorEq, Nat.reduceMod, Nat.reduceBEq, Int.reduceBEq, Int.reduceBNe, Int.reduceToNat, e30]
          · simp -implicitDefEqProofs only [go_sem, ↓reduceIte, Nat.reduceEqDiff, Nat.reduceLT, Nat.reduceLeDiff, Nat.reduceAdd, Nat.reduceMul, Nat.reduceSub, reduceCtorEq, Nat.reduceMod, Nat.reduceBEq, Int.reduceBEq, Int.reduceBNe, Int.reduceToNat]
          · simp -implicitDefEqProofs only [go_sem, ↓reduceIte, Nat.reduceEqDiff, Nat.reduceLT, Nat.reduceLeDiff, Nat.reduceAdd, Nat.reduceMul, Nat.reduceSub, reduceCtorEq, Nat.reduceMod, Nat.reduceBEq, Int.reduceBEq, Int.reduceBNe, Int.reduceToNat, e31, Int.toNat_natCast]
            omega
        · intro _ _ S3 hsub3
          simp -implicitDefEqProofs only [go_sem, ↓reduceIte, Nat.reduceEqDiff, Nat.reduceLT, Nat.reduceLeDiff, Nat.reduceAdd, Nat.reduceMul, Nat.reduceSub, reduceCtorEq, Nat.reduceMod, Nat.reduceBEq, Int.reduceBEq, Int.reduceBNe, Int.reduceToNat, e31, hw]
          refine vnext hJ hM S3 (fun _ _ h => h) ⟨k + 1, L, g, t, hlt, ⟨⟨hsub3 _ _ hp.km.1, hp.km.2⟩, hp.list, hp.vs.keep hsub3, hp.fit, hp.len, hp.few⟩, ?_, hft, ?_, ?_, ?_, ?_, ?_⟩ ?_
          · omega
          · simp -implicitDefEqProofs only [go_sem, ↓reduceIte, Nat.reduceEqDiff, Nat.reduceLT, Nat.reduceLeDiff, Nat.reduceAdd, Nat.reduceMul, Nat.reduceSub, reduceCtorEq, Nat.reduceMod, Nat.reduceBEq, Int.reduceBEq, Int.reduceBNe, Int.reduceToNat, e3]
          · simp -implicitDefEqProofs only [go_sem, ↓reduceIte, Nat.reduceEqDiff, Nat.reduceLT, Nat.reduceLeDiff, Nat.reduceAdd, Nat.reduceMul, Nat.reduceSub, reduceCtorEq, Nat.reduceMod, Nat.reduceBEq, Int.reduceBEq, Int.reduceBNe, Int.reduceToNat, e5]
          · simp -implicitDefEqProofs only [go_sem, ↓reduceIte, Nat.reduceEqDiff, Nat.reduceLT, Nat.reduceLeDiff, Nat.reduceAdd, Nat.reduceMul, Nat.reduceSub, reduceCtorEq, Nat.reduceMod, Nat.reduceBEq, Int.reduceBEq, Int.reduceBNe, Int.reduceToNat, e29]
          · simp -implicitDefEqProofs only [go_sem, ↓reduceIte, Nat.reduceEqDiff, Nat.reduceLT, Nat.reduceLeDiff, Nat.reduceAdd, Nat.reduceMul, Nat.reduceSub, reduceCtorEq, Nat.reduceMod, Nat.reduceBEq, Int.reduceBEq, Int.reduceBNe, Int.reduceToNat, e30]
          · simp -implicitDefEqProofs only [go_sem, ↓reduceIte, Nat.reduceEqDiff, Nat.reduceLT, Nat.reduceLeDiff, Nat.reduceAdd, Nat.reduceMul, Nat.reduceSub, reduceCtorEq, Nat.reduceMod, Nat.reduceBEq, Int.reduceBEq, Int.reduceBNe, Int.reduceToNat]
          · simp -implicitDefEqProofs only [go_sem, ↓reduceIte, Nat.reduceEqDiff, Nat.reduceLT, Nat.reduceLeDiff, Nat.reduceAdd, Nat.reduceMul, Nat.reduceSub, reduceCtorEq, Nat.reduceMod, Nat.reduceBEq, Int.reduceBEq, Int.reduceBNe, Int.reduceToNat, e31, Int.toNat_natCast]
            omega
        · intro _ htk S3 N t3 hfr3 hN hkm3 hl3 hvs3
          obtain ⟨g3, rfl⟩ : ∃ g, N = [(w, g)] := by
            match N, hN with
            | [(a, b)], h => simp at h; exact ⟨b, by rw [h]⟩
          have hfit3 : FitK (doF L 1 [] d.ops) := by
            rw [doF_take]
            exact fit_take _ _ hp.fit (planF_fit hp.fit (hO d (List.mem_of_getElem? hd)))
          simp -implicitDefEqProofs only [go_sem, ↓reduceIte, Nat.reduceEqDiff, Nat.reduceLT, Nat.reduceLeDiff, Nat.reduceAdd, Nat.reduceMul, Nat.reduceSub, reduceCtorEq, Nat.reduceMod, Nat.reduceBEq, Int.reduceBEq, Int.reduceBNe, Int.reduceToNat, e31, hw]
          refine vnext hJ hM S3 (fun _ _ h => h) ⟨k + 1, (doF L 1 [] d.ops), g3, t3, hlt, ⟨hkm3, hl3, hvs3, hfit3, by omega, (show 1 ≤ 1000000 by decide)⟩, ?_, takeE_one htk, ?_, ?_, ?_, ?_, ?_⟩ ?_
          · omega
          · simp -implicitDefEqProofs only [go_sem, ↓reduceIte, Nat.reduceEqDiff, Nat.reduceLT, Nat.reduceLeDiff, Nat.reduceAdd, Nat.reduceMul, Nat.reduceSub, reduceCtorEq, Nat.reduceMod, Nat.reduceBEq, Int.reduceBEq, Int.reduceBNe, Int.reduceToNat, e3]
          · simp -implicitDefEqProofs only [go_sem, ↓reduceIte, Nat.reduceEqDiff, Nat.reduceLT, Nat.reduceLeDiff, Nat.reduceAdd, Nat.reduceMul, Nat.reduceSub, reduceCtorEq, Nat.reduceMod, Nat.reduceBEq, Int.reduceBEq, Int.reduceBNe, Int.reduceToNat, e5]
          · simp -implicitDefEqProofs only [go_sem, ↓reduceIte, Nat.reduceEqDiff, Nat.reduceLT, Nat.reduceLeDiff, Nat.reduceAdd, Nat.reduceMul, Nat.reduceSub, reduceCtorEq, Nat.reduceMod, Nat.reduceBEq, Int.reduceBEq, Int.reduceBNe, Int.reduceToNat, e29]
          · simp -implicitDefEqProofs only [go_sem, ↓reduceIte, Nat.reduceEqDiff, Nat.reduceLT, Nat.reduceLeDiff, Nat.reduceAdd, Nat.reduceMul, Nat.reduceSub, reduceCtorEq, Nat.reduceMod, Nat.reduceBEq, Int.reduceBEq, Int.reduceBNe, Int.reduceToNat, e30]
          · simp -implicitDefEqProofs only [go_sem, ↓reduceIte, Nat.reduceEqDiff, Nat.reduceLT, Nat.reduceLeDiff, Nat.reduceAdd, Nat.reduceMul, Nat.reduceSub, reduceCtorEq, Nat.reduceMod, Nat.reduceBEq, Int.reduceBEq, Int.reduceBNe, Int.reduceToNat]
          · simp -implicitDefEqProofs only [go_sem, ↓reduceIte, Nat.reduceEqDiff, Nat.reduceLT, Nat.reduceLeDiff, Nat.reduceAdd, Nat.reduceMul, Nat.reduceSub, reduceCtorEq, Nat.reduceMod, Nat.reduceBEq, Int.reduceBEq, Int.reduceBNe, Int.reduceToNat, e31, Int.toNat_natCast]
            omega
      · have hop' : ¬ IntKind.i64.wrap ((IntKind.u64.wrap d.op).tmod 8) < 4 := hop
        simp -implicitDefEqProofs only [go_sem, ↓reduceIte, Nat.reduceEqDiff, Nat.reduceLT, Nat.reduceLeDiff, Nat.reduceAdd, Nat.reduceMul, Nat.reduceSub, reduceCtorEq, Nat.reduceMod, Nat.reduceBEq, Int.reduceBEq, Int.reduceBNe, Int.reduceToNat, e5, e29, e30, e31, hlti, h0, Int.toNat_natCast, getD_encDvs hd, remV8, hop', hw]
        refine vnext hJ hM S' (fun _ _ h => h) ⟨k + 1, L, g, t, hlt, hp, by omega, hft, ?_, ?_, ?_, ?_, ?_⟩ ?_
        · simp -implicitDefEqProofs only [go_sem, ↓reduceIte, Nat.reduceEqDiff, Nat.reduceLT, Nat.reduceLeDiff, Nat.reduceAdd, Nat.reduceMul, Nat.reduceSub, reduceCtorEq, Nat.reduceMod, Nat.reduceBEq, Int.reduceBEq, Int.reduceBNe, Int.reduceToNat, e3]
        · simp -implicitDefEqProofs only [go_sem, ↓reduceIte, Nat.reduceEqDiff, Nat.reduceLT, Nat.reduceLeDiff, Nat.reduceAdd, Nat.reduceMul, Nat.reduceSub, reduceCtorEq, Nat.reduceMod, Nat.reduceBEq, Int.reduceBEq, Int.reduceBNe, Int.reduceToNat, e5]
        · simp -implicitDefEqProofs only [go_sem, ↓reduceIte, Nat.reduceEqDiff, Nat.reduceLT, Nat.reduceLeDiff, Nat.reduceAdd, Nat.reduceMul, Nat.reduceSub, reduceCtorEq, Nat.reduceMod, Nat.reduceBEq, Int.reduceBEq, Int.reduceBNe, Int.reduceToNat, e29]
        · simp -implicitDefEqProofs only [go_sem, ↓reduceIte, Nat.reduceEqDiff, Nat.reduceLT, Nat.reduceLeDiff, Nat.reduceAdd, Nat.reduceMul, Nat.reduceSub, reduceCtorEq, Nat.reduceMod, Nat.reduceBEq, Int.reduceBEq, Int.reduceBNe, Int.reduceToNat, e30]
        · simp -implicitDefEqProofs only [go_sem, ↓reduceIte, Nat.reduceEqDiff, Nat.reduceLT, Nat.reduceLeDiff, Nat.reduceAdd, Nat.reduceMul, Nat.reduceSub, reduceCtorEq, Nat.reduceMod, Nat.reduceBEq, Int.reduceBEq, Int.reduceBNe, Int.reduceToNat]
        · simp -implicitDefEqProofs only [go_sem, ↓reduceIte, Nat.reduceEqDiff, Nat.reduceLT, Nat.reduceLeDiff, Nat.reduceAdd, Nat.reduceMul, Nat.reduceSub, reduceCtorEq, Nat.reduceMod, Nat.reduceBEq, Int.reduceBEq, Int.reduceBNe, Int.reduceToNat, e31, Int.toNat_natCast]
          omega
    · have hnl : ¬ (k : Int) < (l.length : Int) := by omega
      simp -implicitDefEqProofs only [go_sem, ↓reduceIte, Nat.reduceEqDiff, Nat.reduceLT, Nat.reduceLeDiff, Nat.reduceAdd, Nat.reduceMul, Nat.reduceSub, reduceCtorEq, Nat.reduceMod, Nat.reduceBEq, Int.reduceBEq, Int.reduceBNe, Int.reduceToNat, e30, e31, hnl]
      refine hQ _ _ _ ?_
      simp -implicitDefEqProofs only [go_sem, ↓reduceIte, Nat.reduceEqDiff, Nat.reduceLT, Nat.reduceLeDiff, Nat.reduceAdd, Nat.reduceMul, Nat.reduceSub, reduceCtorEq, Nat.reduceMod, Nat.reduceBEq, Int.reduceBEq, Int.reduceBNe, Int.reduceToNat]
      refine VNew_calls _ _ ?_
      intro lid hlid
      have hlv : lid ≠ vid := fun he => by rw [he, hp.vs.at_] at hlid; cases hlid
      have hp3 : Ps (S'.set lid (some [.sl .no 5 [], .bool true])) mid vid L [(w, g)] t := by
        have hk : Sub' S' (S'.set lid (some [.sl .no 5 [], .bool true])) := fun id x hx => by
          rw [Go.VL.set_ne (fun he => by rw [he, hlid] at hx; cases hx), hx]
        exact ⟨⟨hk _ _ hp.km.1, hp.km.2⟩, hp.list, hp.vs.keep hk, hp.fit, hp.len, hp.few⟩
      have hlate : Vs (S'.set lid (some [.sl .no 5 [], .bool true])) lid [] L := Vs.nil _ _ _
      generalize hS3 : S'.set lid (some [.sl .no 5 [], .bool true]) = S3 at hp3 hlate ⊢
      have hnd : (L.map Prod.fst).Nodup := sorted_nodup (hp.list ▸ hp.km.2.2)
      have hL4 : L.length ≤ 400000 := hp.len
      have hkm := hp3.km
      have hli := hp3.list
      simp -implicitDefEqProofs only [go_sem, ↓reduceIte, Nat.reduceEqDiff, Nat.reduceLT, Nat.reduceLeDiff, Nat.reduceAdd, Nat.reduceMul, Nat.reduceSub, reduceCtorEq, Nat.reduceMod, Nat.reduceBEq, Int.reduceBEq, Int.reduceBNe, Int.reduceToNat]
      refine vwp_tail (i := 13) 5 (by decide +kernel) (by decide +kernel) ?_
      dsimp only [List.take, List.drop]
      simp -implicitDefEqProofs only [go_sem, ↓reduceIte, Nat.reduceEqDiff, Nat.reduceLT, Nat.reduceLeDiff, Nat.reduceAdd, Nat.reduceMul, Nat.reduceSub, reduceCtorEq, Nat.reduceMod, Nat.reduceBEq, Int.reduceBEq, Int.reduceBNe, Int.reduceToNat, e3, e5]
      refine q_call _ (by simp -implicitDefEqProofs only [go_sem, ↓reduceIte, Nat.reduceEqDiff, Nat.reduceLT, Nat.reduceLeDiff, Nat.reduceAdd, Nat.reduceMul, Nat.reduceSub, reduceCtorEq, Nat.reduceMod, Nat.reduceBEq, Int.reduceBEq, Int.reduceBNe, Int.reduceToNat]; exact KScan_spec hkm (by rw [hli]; omega) _ _) (by decide) rfl ?_
      rw [hli, rangeL_all]
      simp -implicitDefEqProofs only [go_sem, ↓reduceIte, Nat.reduceEqDiff, Nat.reduceLT, Nat.reduceLeDiff, Nat.reduceAdd, Nat.reduceMul, Nat.reduceSub, reduceCtorEq, Nat.reduceMod, Nat.reduceBEq, Int.reduceBEq, Int.reduceBNe, Int.reduceToNat]
      refine VAdd_calls hlate (by decide) w (by omega) hp3.fit hnd _ (fun _ _ h => absurd (addE_new hvc hft) h) ?_
      intro S4 lg hfr4 _ hlate4
      have hlm : lid ≠ mid := fun he => by
        have h5 := hlate.at_
        rw [he, hkm.1] at h5
        injection h5 with h5; injection h5 with h5; cases h5
      have hv4 : Vs S4 vid [(w, g)] L := ⟨hfr4 _ _ (Ne.symm hlv) hp3.vs.at_, fun u hu => by
        obtain ⟨kd, hkd⟩ := hp3.vs.tabs u hu
        refine ⟨kd, hkd.keepM fun id cl st vs hx => hfr4 _ _ (fun he => ?_) hx⟩
        rw [he, hlate.at_] at hx
        injection hx with hx; injection hx with hx; cases hx⟩
      simp -implicitDefEqProofs only [go_sem, ↓reduceIte, Nat.reduceEqDiff, Nat.reduceLT, Nat.reduceLeDiff, Nat.reduceAdd, Nat.reduceMul, Nat.reduceSub, reduceCtorEq, Nat.reduceMod, Nat.reduceBEq, Int.reduceBEq, Int.reduceBNe, Int.reduceToNat, e3, e5]
      refine VRows_at hv4 (show 1 ≤ 1000000 by decide) (by omega) hp3.fit hnd w.name (where_one w g) (t := (w, g)) rfl _ ?_
      simp -implicitDefEqProofs only [go_sem, ↓reduceIte, Nat.reduceEqDiff, Nat.reduceLT, Nat.reduceLeDiff, Nat.reduceAdd, Nat.reduceMul, Nat.reduceSub, reduceCtorEq, Nat.reduceMod, Nat.reduceBEq, Int.reduceBEq, Int.reduceBNe, Int.reduceToNat, e3, e5]
      refine VRows_at hlate4 (show 1 ≤ 1000000 by decide) (by omega) hp3.fit hnd w.name (where_one w lg) (t := (w, lg)) rfl _ ?_
      simp -implicitDefEqProofs only [go_sem, ↓reduceIte, Nat.reduceEqDiff, Nat.reduceLT, Nat.reduceLeDiff, Nat.reduceAdd, Nat.reduceMul, Nat.reduceSub, reduceCtorEq, Nat.reduceMod, Nat.reduceBEq, Int.reduceBEq, Int.reduceBNe, Int.reduceToNat, c0]
      refine Same_spec (rowsOf w L) (by have := rowsOf_len w L; omega) (fun r hr => by have := rowsOf_keys w L r hr; omega) _ _ ?_
      simp -implicitDefEqProofs only [go_sem, ↓reduceIte, Nat.reduceEqDiff, Nat.reduceLT, Nat.reduceLeDiff, Nat.reduceAdd, Nat.reduceMul, Nat.reduceSub, reduceCtorEq, Nat.reduceMod, Nat.reduceBEq, Int.reduceBEq, Int.reduceBNe, Int.reduceToNat]
      refine vawake_calls _ _ ?_
      intro S5 _
      simp -implicitDefEqProofs only [go_sem, ↓reduceIte, Nat.reduceEqDiff, Nat.reduceLT, Nat.reduceLeDiff, Nat.reduceAdd, Nat.reduceMul, Nat.reduceSub, reduceCtorEq, Nat.reduceMod, Nat.reduceBEq, Int.reduceBEq, Int.reduceBNe, Int.reduceToNat]
      exact ⟨S5, fun _ _ h => h, hK S5⟩
end Go.Proofs.Ytdioedabjaaboaa.V
