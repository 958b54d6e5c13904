/- Rows: what a join brings, by the document, and whose memory it is. -/
import Derived.Test.YtjdfajibflodbaaRRef
set_option linter.unusedVariables false
set_option linter.unusedSimpArgs false
namespace Go.Proofs.Ytjdfajibflodbaa.V
open Go Go.VL

theorem joinGo_in (l : Lg) : ∀ (more : List Ent), (∀ e ∈ (joinGo l more).out.rows, e ∈ l.rows ∨ e ∈ more) ∧ (joinGo l more).out.rows.length ≤ l.rows.length + more.length ∧ (joinGo l more).fresh.length ≤ more.length
  | [] => ⟨fun e he => .inl he, Nat.le_refl _, Nat.le_refl _⟩
  | e :: rest => by
    have ih := joinGo_in l rest
    unfold joinGo
    split
    · refine ⟨fun a ha => ?_, by simp only [List.length_cons]; omega, by simp only [List.length_cons]; omega⟩
      rcases ih.1 a ha with h | h
      · exact .inl h
      · exact .inr (List.mem_cons_of_mem _ h)
    · split
      · exact ⟨fun a ha => .inl ha, by simp, by simp⟩
      · refine ⟨fun a ha => ?_, ?_, Nat.le_refl _⟩
        · rcases List.mem_append.1 ha with h | h
          · exact .inl (List.mem_of_mem_take h)
          · exact .inr h
        · simp only [List.length_append, List.length_take]
          omega
theorem joinF_in (l : Lg) (x t : Int) (more : List Ent) : (∀ e ∈ (joinF l x t more).out.rows, e ∈ l.rows ∨ e ∈ more) ∧ (joinF l x t more).out.rows.length ≤ l.rows.length + more.length ∧ (joinF l x t more).fresh.length ≤ more.length := by
  unfold joinF
  split
  · split
    · exact joinGo_in l more
    · exact ⟨fun a ha => .inl ha, by simp, by simp⟩
  · exact ⟨fun a ha => by simp at ha, by simp, by simp⟩

theorem joins_law (l : Lg) (x t : Int) (more : List Ent) (hx : InR x) (hf : FineL l.rows) (hfm : FineL more) (S : Store) : PRet Try.prog 4 [encG l, .int .i64 x, .int .i64 t, .sl .no 3 (encL more)] S (.bool true) := by
  intro K hK
  refine pcalls_of (C := C) (fun _ => false) (fun d => d == 4) Try.func4 rfl rfl (by simp [Try.f4]) ?_
  simp -implicitDefEqProofs only [go_sem, ↓reduceIte, Nat.reduceEqDiff, Nat.reduceLT, Nat.reduceLeDiff, Nat.reduceAdd, Nat.reduceMul, Nat.reduceSub, reduceCtorEq, Nat.reduceMod, Nat.reduceBEq, Int.reduceBEq, Int.reduceBNe, Int.reduceToNat, Try.f4, encG]
  intro id3 hid
  refine light_spec [l.rows, more] (by simp) _ _ ?_
  cases h1 : lightF 0 [l.rows, more]
  · simp -implicitDefEqProofs only [go_sem, ↓reduceIte, Nat.reduceEqDiff, Nat.reduceLT, Nat.reduceLeDiff, Nat.reduceAdd, Nat.reduceMul, Nat.reduceSub, reduceCtorEq, Nat.reduceMod, Nat.reduceBEq, Int.reduceBEq, Int.reduceBNe, Int.reduceToNat, h1]
    refine awake_spec _ _ ?_
    simp -implicitDefEqProofs only [go_sem, ↓reduceIte, Nat.reduceEqDiff, Nat.reduceLT, Nat.reduceLeDiff, Nat.reduceAdd, Nat.reduceMul, Nat.reduceSub, reduceCtorEq, Nat.reduceMod, Nat.reduceBEq, Int.reduceBEq, Int.reduceBNe, Int.reduceToNat]
    exact ⟨S, set_drop hid (fun _ _ h => h), hK⟩
  · have hll : l.rows.length ≤ 200 := light_len _ _ h1 _ (by simp)
    have hlm : more.length ≤ 200 := light_len _ _ h1 _ (by simp)
    simp -implicitDefEqProofs only [go_sem, ↓reduceIte, Nat.reduceEqDiff, Nat.reduceLT, Nat.reduceLeDiff, Nat.reduceAdd, Nat.reduceMul, Nat.reduceSub, reduceCtorEq, Nat.reduceMod, Nat.reduceBEq, Int.reduceBEq, Int.reduceBNe, Int.reduceToNat, h1]
    refine both_spec l (by omega) hf _ _ ?_
    simp -implicitDefEqProofs only [go_sem, ↓reduceIte, Nat.reduceEqDiff, Nat.reduceLT, Nat.reduceLeDiff, Nat.reduceAdd, Nat.reduceMul, Nat.reduceSub, reduceCtorEq, Nat.reduceMod, Nat.reduceBEq, Int.reduceBEq, Int.reduceBNe, Int.reduceToNat, encG]
    refine copied_spec more (by omega) hfm _ _ ?_
    simp -implicitDefEqProofs only [go_sem, ↓reduceIte, Nat.reduceEqDiff, Nat.reduceLT, Nat.reduceLeDiff, Nat.reduceAdd, Nat.reduceMul, Nat.reduceSub, reduceCtorEq, Nat.reduceMod, Nat.reduceBEq, Int.reduceBEq, Int.reduceBNe, Int.reduceToNat]
    refine JoinO_spec l x t more hx (by omega) (by omega) _ _ fun qs S' hq1 hq2 hq3 hq4 => ?_
    have hjin := joinF_in l x t more
    cases hc : chk l
    · have hjf : joinF l x t more = ⟨⟨0, 0, []⟩, 0, [], false⟩ := by unfold joinF; rw [hc]; rfl
      rw [hjf] at hq1 ⊢
      have hqs : qs = [] := List.map_eq_nil_iff.1 hq1
      subst hqs
      have w0 : IntKind.i64.wrap 0 = 0 := rfl
      simp -implicitDefEqProofs only [go_sem, ↓reduceIte, Nat.reduceEqDiff, Nat.reduceLT, Nat.reduceLeDiff, Nat.reduceAdd, Nat.reduceMul, Nat.reduceSub, reduceCtorEq, Nat.reduceMod, Nat.reduceBEq, Int.reduceBEq, Int.reduceBNe, Int.reduceToNat, hc, Int.add_zero, w0]
      refine awake_spec _ _ ?_
      simp -implicitDefEqProofs only [go_sem, ↓reduceIte, Nat.reduceEqDiff, Nat.reduceLT, Nat.reduceLeDiff, Nat.reduceAdd, Nat.reduceMul, Nat.reduceSub, reduceCtorEq, Nat.reduceMod, Nat.reduceBEq, Int.reduceBEq, Int.reduceBNe, Int.reduceToNat, Int.add_zero, w0]
      refine ⟨S, fun i c hi => hq4 i c ?_, hK⟩
      simp only [Store.set]
      rw [if_neg (fun e => by rw [e, hid] at hi; cases hi)]
      exact hi
    · have hne : ∀ q ∈ qs, q.1 ≠ id3 := fun q hq e => by
        have := (hq3 q hq).1
        rw [e] at this
        simp [Store.set] at this
      have hSn : ∀ q ∈ qs, S q.1 = none := fun q hq => by
        have := (hq3 q hq).1
        simpa [Store.set, hne q hq] using this
      have hheld : ∀ q ∈ qs, S' q.1 = some (cellsD q.2.d) := fun q hq => (hq3 q hq).2
      have hS3 : S' id3 = some [.int .i64 l.i, .int .i64 l.t, .sl .no 3 (encL l.rows)] := hq4 _ _ (by simp [Store.set])
      have hSS : ∀ i c, S i = some c → S' i = some c := fun i c hi => hq4 i c (by
        simp only [Store.set]
        rw [if_neg (fun e => by rw [e, hid] at hi; cases hi)]
        exact hi)
      simp -implicitDefEqProofs only [go_sem, ↓reduceIte, Nat.reduceEqDiff, Nat.reduceLT, Nat.reduceLeDiff, Nat.reduceAdd, Nat.reduceMul, Nat.reduceSub, reduceCtorEq, Nat.reduceMod, Nat.reduceBEq, Int.reduceBEq, Int.reduceBNe, Int.reduceToNat, hc]
      refine refJoin_spec l x t more hc (by omega) (by omega) hfm _ _ ?_
      generalize joinF l x t more = j at hq1 hjin ⊢
      simp -implicitDefEqProofs only [go_sem, ↓reduceIte, Nat.reduceEqDiff, Nat.reduceLT, Nat.reduceLeDiff, Nat.reduceAdd, Nat.reduceMul, Nat.reduceSub, reduceCtorEq, Nat.reduceMod, Nat.reduceBEq, Int.reduceBEq, Int.reduceBNe, Int.reduceToNat, encJ, encG]
      have hjl : j.out.rows.length ≤ 100000 := by omega
      have hjf : j.fresh.length ≤ 100000 := by omega
      refine PRet.borrow (args := [.sl .no 3 (encO qs), .sl .no 3 (encL j.out.rows)]) (args' := [.sl .no 3 (encL j.out.rows), .sl .no 3 (encL j.out.rows)]) (Same_spec _ _ hjl _) rfl rfl (fun k p q hp hq => ?_) _ ?_
      · rcases k with _ | _ | k
        · simp at hp hq
          subst hp; subst hq
          refine ⟨?_, rfl⟩
          rw [← hq1]
          exact fz_encO hheld
        · simp at hp hq
          subst hp; subst hq
          exact ⟨.refl _, rfl⟩
        · simp at hp
      rw [sameL_refl]
      simp -implicitDefEqProofs only [go_sem, ↓reduceIte, Nat.reduceEqDiff, Nat.reduceLT, Nat.reduceLeDiff, Nat.reduceAdd, Nat.reduceMul, Nat.reduceSub, reduceCtorEq, Nat.reduceMod, Nat.reduceBEq, Int.reduceBEq, Int.reduceBNe, Int.reduceToNat]
      refine Same_spec _ _ hjf _ _ ?_
      rw [sameL_refl]
      simp -implicitDefEqProofs only [go_sem, ↓reduceIte, Nat.reduceEqDiff, Nat.reduceLT, Nat.reduceLeDiff, Nat.reduceAdd, Nat.reduceMul, Nat.reduceSub, reduceCtorEq, Nat.reduceMod, Nat.reduceBEq, Int.reduceBEq, Int.reduceBNe, Int.reduceToNat]
      have hpl : qs.length ≤ 100000 := by
        have := congrArg List.length hq1
        rw [List.length_map] at this
        omega
      have hdl : ∀ p ∈ qs, p.2.d.length ≤ 140737488351232 := fun p hp => by
        have hm : p.2 ∈ j.out.rows := by rw [← hq1]; exact List.mem_map.2 ⟨p, hp, rfl⟩
        rcases hjin.1 _ hm with h | h
        · exact (hf _ h).2.2.1
        · exact (hfm _ h).2.2.1
      refine vloop (fun e S2 => (Held S2 qs ∧ S2 id3 = some [.int .i64 l.i, .int .i64 l.t, .sl .no 3 (encL l.rows)] ∧ ∀ i c, S i = some c → S2 i = some c) ∧ ∃ k : Nat, k ≤ qs.length ∧ e 3 = .sl .no 3 (encL more) ∧ e 4 = .ref id3 0 ∧ e 9 = .ip [.int .i64 l.i, .int .i64 l.t, .sl .no 3 (encL l.rows)] 0 ∧ e 11 = .sl .no 3 (encL more) ∧ e 12 = .ip [.int .i64 j.out.i, .int .i64 j.out.t, .sl .no 3 (encO qs)] 0 ∧ e 14 = .sl .no 3 (encL j.fresh) ∧ e 18 = .sl .no 3 (encL j.fresh) ∧ e 20 = .bool true ∧ e 118 = .int .i64 qs.length ∧ e 119 = .int .i64 k) (fun e _ => qs.length - iv (e 119)) ?_ ?_
      · exact ⟨⟨fun p hp => ⟨p.2.d, hheld p hp, rfl⟩, hS3, hSS⟩, 0, Nat.zero_le _, rfl, rfl, rfl, rfl, rfl, rfl, rfl, rfl, rfl, rfl⟩
      · rintro J M Q' hJ hM hQ e S2 ⟨hinv, k, hk, e3, e4, e9, e11, e12, e14, e18, e20, e118, e119⟩
        simp -implicitDefEqProofs only [go_sem, ↓reduceIte, Nat.reduceEqDiff, Nat.reduceLT, Nat.reduceLeDiff, Nat.reduceAdd, Nat.reduceMul, Nat.reduceSub, reduceCtorEq, Nat.reduceMod, Nat.reduceBEq, Int.reduceBEq, Int.reduceBNe, Int.reduceToNat, e118, e119]
        by_cases hlt : k < qs.length
        · obtain ⟨p, hp⟩ : ∃ p, qs[k]? = some p := ⟨_, List.getElem?_eq_getElem hlt⟩
          have hpm := List.mem_of_getElem? hp
          have hpd := hdl p hpm
          have hin : (0 : Int) ≤ k ∧ (k : Int) < qs.length := by omega
          have hk1 : IntKind.i64.wrap ((k : Int) + 1) = ((k + 1 : Nat) : Int) := wrap64 (by omega) (by omega)
          have hgo : (encO qs).getD k [] = [.int .i64 p.2.i, .int .i64 p.2.t, .arr .no p.1 0 p.2.d.length 1] := by
            simp [encO, List.getD_eq_getElem?_getD, hp]
          simp -implicitDefEqProofs only [go_sem, ↓reduceIte, Nat.reduceEqDiff, Nat.reduceLT, Nat.reduceLeDiff, Nat.reduceAdd, Nat.reduceMul, Nat.reduceSub, reduceCtorEq, Nat.reduceMod, Nat.reduceBEq, Int.reduceBEq, Int.reduceBNe, Int.reduceToNat, hin, e12, e118, e119, hgo]
          refine vloop (fun e S2 => (Held S2 qs ∧ S2 id3 = some [.int .i64 l.i, .int .i64 l.t, .sl .no 3 (encL l.rows)] ∧ ∀ i c, S i = some c → S2 i = some c) ∧ ∃ m : Nat, m ≤ p.2.d.length ∧ e 3 = .sl .no 3 (encL more) ∧ e 4 = .ref id3 0 ∧ e 9 = .ip [.int .i64 l.i, .int .i64 l.t, .sl .no 3 (encL l.rows)] 0 ∧ e 11 = .sl .no 3 (encL more) ∧ e 12 = .ip [.int .i64 j.out.i, .int .i64 j.out.t, .sl .no 3 (encO qs)] 0 ∧ e 14 = .sl .no 3 (encL j.fresh) ∧ e 18 = .sl .no 3 (encL j.fresh) ∧ e 20 = .bool true ∧ e 118 = .int .i64 qs.length ∧ e 119 = .int .i64 k ∧ e 21 = .int .i64 k ∧ e 128 = .int .i64 p.2.d.length ∧ e 129 = .int .i64 m) (fun e _ => p.2.d.length - iv (e 129)) ?_ ?_
          · exact ⟨hinv, 0, Nat.zero_le _, e3, e4, e9, e11, e12, e14, e18, e20, e118, e119, rfl, rfl, rfl⟩
          · rintro J2 M2 Q2 hJ2 hM2 hQ2 e' S3 ⟨hinv2, m, hm2, f3, f4, f9, f11, f12, f14, f18, f20, f118, f119, f21, f128, f129⟩
            simp -implicitDefEqProofs only [go_sem, ↓reduceIte, Nat.reduceEqDiff, Nat.reduceLT, Nat.reduceLeDiff, Nat.reduceAdd, Nat.reduceMul, Nat.reduceSub, reduceCtorEq, Nat.reduceMod, Nat.reduceBEq, Int.reduceBEq, Int.reduceBNe, Int.reduceToNat, f128, f129]
            by_cases hlt2 : m < p.2.d.length
            · obtain ⟨d, hd1, hd2⟩ := hinv2.1 p hpm
              have hinm : (0 : Int) ≤ m ∧ (m : Int) < p.2.d.length := by omega
              have hm1 : IntKind.i64.wrap ((m : Int) + 1) = ((m + 1 : Nat) : Int) := wrap64 (by omega) (by omega)
              obtain ⟨b, hb⟩ : ∃ b, d[m]? = some b := ⟨_, List.getElem?_eq_getElem (by omega)⟩
              have hcm : ((cellsD d).map PV.bare)[m]? = some (.int .u8 b) := by rw [cellsD_bare]; simp [cellsD, hb]
              have hfit2 : m + 1 ≤ (cellsD d).length := by rw [cellsD_len]; omega
              simp -implicitDefEqProofs only [go_sem, ↓reduceIte, Nat.reduceEqDiff, Nat.reduceLT, Nat.reduceLeDiff, Nat.reduceAdd, Nat.reduceMul, Nat.reduceSub, reduceCtorEq, Nat.reduceMod, Nat.reduceBEq, Int.reduceBEq, Int.reduceBNe, Int.reduceToNat, hin, hinm, f12, f21, f129, hgo, Nat.mul_one, hd1, hcm, hm1]
              refine ⟨by omega, ?_⟩
              rw [cellsD_splice (by omega)]
              refine vnext hJ2 hM2 _ (fun _ _ h => h) ⟨⟨held_set hinv2.1 (fun q hq he => ?_), ?_, fun i c hi => ?_⟩, m + 1, hlt2, ?_, ?_, ?_, ?_, ?_, ?_, ?_, ?_, ?_, ?_, ?_, ?_, ?_⟩ ?_
              · have hqp : q = p := by
                  obtain ⟨a, ha⟩ := List.mem_iff_getElem?.1 hq
                  have h1 : (qs.map (·.1))[a]? = some q.1 := by rw [List.getElem?_map, ha]; rfl
                  have h2 : (qs.map (·.1))[k]? = some q.1 := by rw [List.getElem?_map, hp, he]; rfl
                  have hak : a = k := (List.getElem?_inj (List.getElem?_eq_some_iff.1 h1).1 hq2).1 (h1.trans h2.symm)
                  subst hak
                  rw [hp] at ha
                  injection ha with ha
                  exact ha.symm
                subst hqp
                rw [List.length_set]
                exact hd2
              · simp only [Store.set]
                rw [if_neg (fun e => hne p hpm e.symm)]
                exact hinv2.2.1
              · simp only [Store.set]
                rw [if_neg (fun e => by have := hSn p hpm; rw [← e, hi] at this; cases this)]
                exact hinv2.2.2 i c hi
              · simp -implicitDefEqProofs only [go_sem, ↓reduceIte, Nat.reduceEqDiff, Nat.reduceLT, Nat.reduceLeDiff, Nat.reduceAdd, Nat.reduceMul, Nat.reduceSub, reduceCtorEq, Nat.reduceMod, Nat.reduceBEq, Int.reduceBEq, Int.reduceBNe, Int.reduceToNat, f3]
              · simp -implicitDefEqProofs only [go_sem, ↓reduceIte, Nat.reduceEqDiff, Nat.reduceLT, Nat.reduceLeDiff, Nat.reduceAdd, Nat.reduceMul, Nat.reduceSub, reduceCtorEq, Nat.reduceMod, Nat.reduceBEq, Int.reduceBEq, Int.reduceBNe, Int.reduceToNat, f4]
              · simp -implicitDefEqProofs only [go_sem, ↓reduceIte, Nat.reduceEqDiff, Nat.reduceLT, Nat.reduceLeDiff, Nat.reduceAdd, Nat.reduceMul, Nat.reduceSub, reduceCtorEq, Nat.reduceMod, Nat.reduceBEq, Int.reduceBEq, Int.reduceBNe, Int.reduceToNat, f9]
              · simp -implicitDefEqProofs only [go_sem, ↓reduceIte, Nat.reduceEqDiff, Nat.reduceLT, Nat.reduceLeDiff, Nat.reduceAdd, Nat.reduceMul, Nat.reduceSub, reduceCtorEq, Nat.reduceMod, Nat.reduceBEq, Int.reduceBEq, Int.reduceBNe, Int.reduceToNat, f11]
              · simp -implicitDefEqProofs only [go_sem, ↓reduceIte, Nat.reduceEqDiff, Nat.reduceLT, Nat.reduceLeDiff, Nat.reduceAdd, Nat.reduceMul, Nat.reduceSub, reduceCtorEq, Nat.reduceMod, Nat.reduceBEq, Int.reduceBEq, Int.reduceBNe, Int.reduceToNat, f12]
              · simp -implicitDefEqProofs only [go_sem, ↓reduceIte, Nat.reduceEqDiff, Nat.reduceLT, Nat.reduceLeDiff, Nat.reduceAdd, Nat.reduceMul, Nat.reduceSub, reduceCtorEq, Nat.reduceMod, Nat.reduceBEq, Int.reduceBEq, Int.reduceBNe, Int.reduceToNat, f14]
              · simp -implicitDefEqProofs only [go_sem, ↓reduceIte, Nat.reduceEqDiff, Nat.reduceLT, Nat.reduceLeDiff, Nat.reduceAdd, Nat.reduceMul, Nat.reduceSub, reduceCtorEq, Nat.reduceMod, Nat.reduceBEq, Int.reduceBEq, Int.reduceBNe, Int.reduceToNat, f18]
              · simp -implicitDefEqProofs only [go_sem, ↓reduceIte, Nat.reduceEqDiff, Nat.reduceLT, Nat.reduceLeDiff, Nat.reduceAdd, Nat.reduceMul, Nat.reduceSub, reduceCtorEq, Nat.reduceMod, Nat.reduceBEq, Int.reduceBEq, Int.reduceBNe, Int.reduceToNat, f20]
              · simp -implicitDefEqProofs only [go_sem, ↓reduceIte, Nat.reduceEqDiff, Nat.reduceLT, Nat.reduceLeDiff, Nat.reduceAdd, Nat.reduceMul, Nat.reduceSub, reduceCtorEq, Nat.reduceMod, Nat.reduceBEq, Int.reduceBEq, Int.reduceBNe, Int.reduceToNat, f118]
              · simp -implicitDefEqProofs only [go_sem, ↓reduceIte, Nat.reduceEqDiff, Nat.reduceLT, Nat.reduceLeDiff, Nat.reduceAdd, Nat.reduceMul, Nat.reduceSub, reduceCtorEq, Nat.reduceMod, Nat.reduceBEq, Int.reduceBEq, Int.reduceBNe, Int.reduceToNat, f119]
              · simp -implicitDefEqProofs only [go_sem, ↓reduceIte, Nat.reduceEqDiff, Nat.reduceLT, Nat.reduceLeDiff, Nat.reduceAdd, Nat.reduceMul, Nat.reduceSub, reduceCtorEq, Nat.reduceMod, Nat.reduceBEq, Int.reduceBEq, Int.reduceBNe, Int.reduceToNat, f21]
              · simp -implicitDefEqProofs only [go_sem, ↓reduceIte, Nat.reduceEqDiff, Nat.reduceLT, Nat.reduceLeDiff, Nat.reduceAdd, Nat.reduceMul, Nat.reduceSub, reduceCtorEq, Nat.reduceMod, Nat.reduceBEq, Int.reduceBEq, Int.reduceBNe, Int.reduceToNat, f128]
              · simp -implicitDefEqProofs only [go_sem, ↓reduceIte, Nat.reduceEqDiff, Nat.reduceLT, Nat.reduceLeDiff, Nat.reduceAdd, Nat.reduceMul, Nat.reduceSub, reduceCtorEq, Nat.reduceMod, Nat.reduceBEq, Int.reduceBEq, Int.reduceBNe, Int.reduceToNat]
              · simp -implicitDefEqProofs only [go_sem, ↓reduceIte, Nat.reduceEqDiff, Nat.reduceLT, Nat.reduceLeDiff, Nat.reduceAdd, Nat.reduceMul, Nat.reduceSub, reduceCtorEq, Nat.reduceMod, Nat.reduceBEq, Int.reduceBEq, Int.reduceBNe, Int.reduceToNat]
                omega
            · have hcc : ¬ (m : Int) < p.2.d.length := by omega
              simp -implicitDefEqProofs only [go_sem, ↓reduceIte, Nat.reduceEqDiff, Nat.reduceLT, Nat.reduceLeDiff, Nat.reduceAdd, Nat.reduceMul, Nat.reduceSub, reduceCtorEq, Nat.reduceMod, Nat.reduceBEq, Int.reduceBEq, Int.reduceBNe, Int.reduceToNat, hcc]
              refine hQ2 _ _ _ ?_
              simp -implicitDefEqProofs only [go_sem, ↓reduceIte, Nat.reduceEqDiff, Nat.reduceLT, Nat.reduceLeDiff, Nat.reduceAdd, Nat.reduceMul, Nat.reduceSub, reduceCtorEq, Nat.reduceMod, Nat.reduceBEq, Int.reduceBEq, Int.reduceBNe, Int.reduceToNat, f119, hk1]
              refine vnext hJ hM S3 (fun _ _ h => h) ⟨hinv2, k + 1, hlt, ?_, ?_, ?_, ?_, ?_, ?_, ?_, ?_, ?_, ?_⟩ ?_
              · simp -implicitDefEqProofs only [go_sem, ↓reduceIte, Nat.reduceEqDiff, Nat.reduceLT, Nat.reduceLeDiff, Nat.reduceAdd, Nat.reduceMul, Nat.reduceSub, reduceCtorEq, Nat.reduceMod, Nat.reduceBEq, Int.reduceBEq, Int.reduceBNe, Int.reduceToNat, f3]
              · simp -implicitDefEqProofs only [go_sem, ↓reduceIte, Nat.reduceEqDiff, Nat.reduceLT, Nat.reduceLeDiff, Nat.reduceAdd, Nat.reduceMul, Nat.reduceSub, reduceCtorEq, Nat.reduceMod, Nat.reduceBEq, Int.reduceBEq, Int.reduceBNe, Int.reduceToNat, f4]
              · simp -implicitDefEqProofs only [go_sem, ↓reduceIte, Nat.reduceEqDiff, Nat.reduceLT, Nat.reduceLeDiff, Nat.reduceAdd, Nat.reduceMul, Nat.reduceSub, reduceCtorEq, Nat.reduceMod, Nat.reduceBEq, Int.reduceBEq, Int.reduceBNe, Int.reduceToNat, f9]
              · simp -implicitDefEqProofs only [go_sem, ↓reduceIte, Nat.reduceEqDiff, Nat.reduceLT, Nat.reduceLeDiff, Nat.reduceAdd, Nat.reduceMul, Nat.reduceSub, reduceCtorEq, Nat.reduceMod, Nat.reduceBEq, Int.reduceBEq, Int.reduceBNe, Int.reduceToNat, f11]
              · simp -implicitDefEqProofs only [go_sem, ↓reduceIte, Nat.reduceEqDiff, Nat.reduceLT, Nat.reduceLeDiff, Nat.reduceAdd, Nat.reduceMul, Nat.reduceSub, reduceCtorEq, Nat.reduceMod, Nat.reduceBEq, Int.reduceBEq, Int.reduceBNe, Int.reduceToNat, f12]
              · simp -implicitDefEqProofs only [go_sem, ↓reduceIte, Nat.reduceEqDiff, Nat.reduceLT, Nat.reduceLeDiff, Nat.reduceAdd, Nat.reduceMul, Nat.reduceSub, reduceCtorEq, Nat.reduceMod, Nat.reduceBEq, Int.reduceBEq, Int.reduceBNe, Int.reduceToNat, f14]
              · simp -implicitDefEqProofs only [go_sem, ↓reduceIte, Nat.reduceEqDiff, Nat.reduceLT, Nat.reduceLeDiff, Nat.reduceAdd, Nat.reduceMul, Nat.reduceSub, reduceCtorEq, Nat.reduceMod, Nat.reduceBEq, Int.reduceBEq, Int.reduceBNe, Int.reduceToNat, f18]
              · simp -implicitDefEqProofs only [go_sem, ↓reduceIte, Nat.reduceEqDiff, Nat.reduceLT, Nat.reduceLeDiff, Nat.reduceAdd, Nat.reduceMul, Nat.reduceSub, reduceCtorEq, Nat.reduceMod, Nat.reduceBEq, Int.reduceBEq, Int.reduceBNe, Int.reduceToNat, f20]
              · simp -implicitDefEqProofs only [go_sem, ↓reduceIte, Nat.reduceEqDiff, Nat.reduceLT, Nat.reduceLeDiff, Nat.reduceAdd, Nat.reduceMul, Nat.reduceSub, reduceCtorEq, Nat.reduceMod, Nat.reduceBEq, Int.reduceBEq, Int.reduceBNe, Int.reduceToNat, f118]
              · simp -implicitDefEqProofs only [go_sem, ↓reduceIte, Nat.reduceEqDiff, Nat.reduceLT, Nat.reduceLeDiff, Nat.reduceAdd, Nat.reduceMul, Nat.reduceSub, reduceCtorEq, Nat.reduceMod, Nat.reduceBEq, Int.reduceBEq, Int.reduceBNe, Int.reduceToNat]
              · simp -implicitDefEqProofs only [go_sem, ↓reduceIte, Nat.reduceEqDiff, Nat.reduceLT, Nat.reduceLeDiff, Nat.reduceAdd, Nat.reduceMul, Nat.reduceSub, reduceCtorEq, Nat.reduceMod, Nat.reduceBEq, Int.reduceBEq, Int.reduceBNe, Int.reduceToNat]
                omega
        · have hcc : ¬ (k : Int) < qs.length := by omega
          simp -implicitDefEqProofs only [go_sem, ↓reduceIte, Nat.reduceEqDiff, Nat.reduceLT, Nat.reduceLeDiff, Nat.reduceAdd, Nat.reduceMul, Nat.reduceSub, reduceCtorEq, Nat.reduceMod, Nat.reduceBEq, Int.reduceBEq, Int.reduceBNe, Int.reduceToNat, hcc]
          refine hQ _ _ _ ?_
          simp -implicitDefEqProofs only [go_sem, ↓reduceIte, Nat.reduceEqDiff, Nat.reduceLT, Nat.reduceLeDiff, Nat.reduceAdd, Nat.reduceMul, Nat.reduceSub, reduceCtorEq, Nat.reduceMod, Nat.reduceBEq, Int.reduceBEq, Int.reduceBNe, Int.reduceToNat, e3, e4, e9, e11, e12, e14, e18, e20, hinv.2.1]
          refine Same_spec _ _ (by omega) _ _ ?_
          rw [sameL_refl]
          simp -implicitDefEqProofs only [go_sem, ↓reduceIte, Nat.reduceEqDiff, Nat.reduceLT, Nat.reduceLeDiff, Nat.reduceAdd, Nat.reduceMul, Nat.reduceSub, reduceCtorEq, Nat.reduceMod, Nat.reduceBEq, Int.reduceBEq, Int.reduceBNe, Int.reduceToNat, e3, e4, e9, e11, e12, e14, e18, e20]
          refine Same_spec _ _ (by omega) _ _ ?_
          rw [sameL_refl]
          simp -implicitDefEqProofs only [go_sem, ↓reduceIte, Nat.reduceEqDiff, Nat.reduceLT, Nat.reduceLeDiff, Nat.reduceAdd, Nat.reduceMul, Nat.reduceSub, reduceCtorEq, Nat.reduceMod, Nat.reduceBEq, Int.reduceBEq, Int.reduceBNe, Int.reduceToNat, e3, e4, e9, e11, e12, e14, e18, e20]
          refine Same_spec _ _ (by omega) _ _ ?_
          rw [sameL_refl]
          simp -implicitDefEqProofs only [go_sem, ↓reduceIte, Nat.reduceEqDiff, Nat.reduceLT, Nat.reduceLeDiff, Nat.reduceAdd, Nat.reduceMul, Nat.reduceSub, reduceCtorEq, Nat.reduceMod, Nat.reduceBEq, Int.reduceBEq, Int.reduceBNe, Int.reduceToNat, e3, e4, e9, e11, e12, e14, e18, e20]
          refine awake_spec _ _ ?_
          simp -implicitDefEqProofs only [go_sem, ↓reduceIte, Nat.reduceEqDiff, Nat.reduceLT, Nat.reduceLeDiff, Nat.reduceAdd, Nat.reduceMul, Nat.reduceSub, reduceCtorEq, Nat.reduceMod, Nat.reduceBEq, Int.reduceBEq, Int.reduceBNe, Int.reduceToNat]
          exact ⟨S, hinv.2.2, hK⟩
end Go.Proofs.Ytjdfajibflodbaa.V
