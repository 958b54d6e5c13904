/- Rows: what entries bring, in memory of one's own. -/
import Derived.Test.YtjdfajibflodbaaRQ
set_option linter.unusedVariables false
set_option linter.unusedSimpArgs false
namespace Go.Proofs.Ytjdfajibflodbaa.V
open Go Go.VL

@[go_sem] theorem encO_take (k : Nat) (l : List (Nat × Ent)) : List.take k (encO l) = encO (l.take k) := by simp [encO, List.map_take]
@[go_sem] theorem encO_drop (k : Nat) (l : List (Nat × Ent)) : List.drop k (encO l) = encO (l.drop k) := by simp [encO, List.map_drop]

theorem fz_G {S : Store} {l : Lg} {ps : List (Nat × Ent)} (hp : ps.map (·.2) = l.rows) (h : ∀ p ∈ ps, S p.1 = some (cellsD p.2.d)) : Fz S (.agg [.int .i64 l.i, .int .i64 l.t, .sl .no 3 (encO ps)]) (encG l) := by
  refine .agg rfl fun k v v' hv hv' => ?_
  rcases k with _ | _ | _ | k
  · simp at hv hv'; subst hv; subst hv'; exact .refl _
  · simp at hv hv'; subst hv; subst hv'; exact .refl _
  · simp at hv hv'
    subst hv; subst hv'
    rw [← hp]
    exact fz_encO h
  · simp at hv

theorem JoinO_spec (l : Lg) (x t : Int) (more : List Ent) (hx : InR x) (hl : l.rows.length ≤ 100000) (hm : more.length ≤ 100000) (S : Store) (K : PV → Store → Prop)
    (hK : ∀ (qs : List (Nat × Ent)) (S' : Store), qs.map (·.2) = (joinF l x t more).out.rows → (qs.map (·.1)).Nodup → (∀ q ∈ qs, S q.1 = none ∧ S' q.1 = some (cellsD q.2.d)) → (∀ i c, S i = some c → S' i = some c) →
      K (.tup [.agg [.int .i64 (joinF l x t more).out.i, .int .i64 (joinF l x t more).out.t, .sl .no 3 (encO qs)], .int .i64 (joinF l x t more).cut, .sl .no 3 (encL (joinF l x t more).fresh), .bool (joinF l x t more).ok]) S') :
    PCalls Try.prog 18 [encG l, .int .i64 x, .int .i64 t, .sl .no 3 (encL more)] S K := by
  refine pcalls_of (C := C) (fun _ => false) (fun d => d == 4) Try.func18 rfl rfl (by simp [Try.f18]) ?_
  have hf : Fit l := by unfold Fit; omega
  simp -implicitDefEqProofs only [go_sem, ↓reduceIte, Nat.reduceEqDiff, Nat.reduceLT, Nat.reduceLeDiff, Nat.reduceAdd, Nat.reduceMul, Nat.reduceSub, reduceCtorEq, Nat.reduceMod, Nat.reduceBEq, Int.reduceBEq, Int.reduceBNe, Int.reduceToNat, Try.f18, encG]
  intro id hid
  refine check_spec l hf _ _ ?_
  cases h : chk l
  · have hjf : joinF l x t more = ⟨⟨0, 0, []⟩, 0, [], false⟩ := by unfold joinF; rw [h]; rfl
    have := hK [] S (by rw [hjf]; rfl) (by simp) (by simp) (fun _ _ h => h)
    rw [hjf] at this
    simp -implicitDefEqProofs only [go_sem, ↓reduceIte, Nat.reduceEqDiff, Nat.reduceLT, Nat.reduceLeDiff, Nat.reduceAdd, Nat.reduceMul, Nat.reduceSub, reduceCtorEq, Nat.reduceMod, Nat.reduceBEq, Int.reduceBEq, Int.reduceBNe, Int.reduceToNat, chkN_f]
    exact ⟨S, set_drop hid (fun _ _ h => h), this⟩
  · obtain ⟨c1, c2, c3, c4, hr⟩ := chk_iff h
    have hb := lastF_le h
    simp -implicitDefEqProofs only [go_sem, ↓reduceIte, Nat.reduceEqDiff, Nat.reduceLT, Nat.reduceLeDiff, Nat.reduceAdd, Nat.reduceMul, Nat.reduceSub, reduceCtorEq, Nat.reduceMod, Nat.reduceBEq, Int.reduceBEq, Int.reduceBNe, Int.reduceToNat, chkN_t]
    refine ownO_spec l.rows (by omega) (fun e he => by have := rise_d _ _ _ hr e he; omega) _ _ fun ps hp1 hp2 hp3 => ?_
    have hpl : ps.length = l.rows.length := by
      have := congrArg List.length hp1
      rwa [List.length_map] at this
    have hpid : ∀ p ∈ ps, p.1 ≠ id := fun p hp e => by
      have := hp3 p hp
      rw [e] at this
      simp [Store.set] at this
    have hSp : ∀ p ∈ ps, S p.1 = none := fun p hp => by
      have := hp3 p hp
      simpa [Store.set, hpid p hp] using this
    have hnr : (ps.reverse.map (·.1)).Nodup := by rw [List.map_reverse]; exact List.pairwise_reverse.2 (hp2.imp Ne.symm)
    have hT0 : SO (S.set id (some [.int .i64 l.i, .int .i64 l.t, .sl .no 3 (encL l.rows)])) ps.reverse id = some [.int .i64 l.i, .int .i64 l.t, .sl .no 3 (encL l.rows)] := by
      rw [SO_out (fun p hp => hpid p (List.mem_reverse.1 hp))]
      simp [Store.set]
    simp -implicitDefEqProofs only [go_sem, ↓reduceIte, Nat.reduceEqDiff, Nat.reduceLT, Nat.reduceLeDiff, Nat.reduceAdd, Nat.reduceMul, Nat.reduceSub, reduceCtorEq, Nat.reduceMod, Nat.reduceBEq, Int.reduceBEq, Int.reduceBNe, Int.reduceToNat, hT0]
    have hTp : ∀ p ∈ ps, ((SO (S.set id (some [.int .i64 l.i, .int .i64 l.t, .sl .no 3 (encL l.rows)])) ps.reverse).set id (some [.int .i64 l.i, .int .i64 l.t, .sl .no 3 (encO ps)])) p.1 = some (cellsD p.2.d) := fun p hp => by
      simp only [Store.set]
      rw [if_neg (hpid p hp)]
      exact SO_in hnr (List.mem_reverse.2 hp)
    have hTS : ∀ i c, S i = some c → ((SO (S.set id (some [.int .i64 l.i, .int .i64 l.t, .sl .no 3 (encL l.rows)])) ps.reverse).set id (some [.int .i64 l.i, .int .i64 l.t, .sl .no 3 (encO ps)])) i = some c := fun i c hi => by
      have hne : i ≠ id := fun e => by rw [e, hid] at hi; cases hi
      simp only [Store.set]
      rw [if_neg hne, SO_out (fun p hp e => by have := hSp p (List.mem_reverse.1 hp); rw [e, hi] at this; cases this)]
      simp only [Store.set]
      rw [if_neg hne]
      exact hi
    have hT : ((SO (S.set id (some [.int .i64 l.i, .int .i64 l.t, .sl .no 3 (encL l.rows)])) ps.reverse).set id (some [.int .i64 l.i, .int .i64 l.t, .sl .no 3 (encO ps)])) id = some [.int .i64 l.i, .int .i64 l.t, .sl .no 3 (encO ps)] := by simp [Store.set]
    generalize hTT : (SO (S.set id (some [.int .i64 l.i, .int .i64 l.t, .sl .no 3 (encL l.rows)])) ps.reverse).set id (some [.int .i64 l.i, .int .i64 l.t, .sl .no 3 (encO ps)]) = T at hTp hTS hT ⊢
    clear hTT hT0 hp3
    have lend : ∀ (k : Nat) p q, [PV.agg [.int .i64 l.i, .int .i64 l.t, .sl .no 3 (encO ps)]][k]? = some p → [encG l][k]? = some q → Fz T p q ∧ q.bare = q := by
      intro k p q hp hq
      rcases k with _ | k
      · simp at hp hq; subst hp; subst hq; exact ⟨fz_G hp1 hTp, rfl⟩
      · simp at hp
    have lend2 : ∀ (z : Int) (k : Nat) p q, [PV.agg [.int .i64 l.i, .int .i64 l.t, .sl .no 3 (encO ps)], .int .i64 z][k]? = some p → [encG l, .int .i64 z][k]? = some q → Fz T p q ∧ q.bare = q := by
      intro z k p q hp hq
      rcases k with _ | _ | k
      · simp at hp hq; subst hp; subst hq; exact ⟨fz_G hp1 hTp, rfl⟩
      · simp at hp hq; subst hp; subst hq; exact ⟨.refl _, rfl⟩
      · simp at hp
    have atO : ∀ z : Int, -9223372036854775808 ≤ z → z ≤ 9223372036854775807 → PRet Try.prog 39 [.agg [.int .i64 l.i, .int .i64 l.t, .sl .no 3 (encO ps)], .int .i64 z] T (.tup [.int .i64 (atF l z).1, .bool (atF l z).2]) := fun z h1 h2 =>
      PRet.borrow (args' := [encG l, .int .i64 z]) (at_spec l z h1 h2 hf h _) rfl rfl (lend2 z)
    refine PRet.borrow (args := [.agg [.int .i64 l.i, .int .i64 l.t, .sl .no 3 (encO ps)]]) (args' := [encG l]) (last_spec l hf _) rfl rfl lend _ ?_
    simp -implicitDefEqProofs only [go_sem, ↓reduceIte, Nat.reduceEqDiff, Nat.reduceLT, Nat.reduceLeDiff, Nat.reduceAdd, Nat.reduceMul, Nat.reduceSub, reduceCtorEq, Nat.reduceMod, Nat.reduceBEq, Int.reduceBEq, Int.reduceBNe, Int.reduceToNat, hT]
    refine atO x hx.1 hx.2 _ ?_
    simp -implicitDefEqProofs only [go_sem, ↓reduceIte, Nat.reduceEqDiff, Nat.reduceLT, Nat.reduceLeDiff, Nat.reduceAdd, Nat.reduceMul, Nat.reduceSub, reduceCtorEq, Nat.reduceMod, Nat.reduceBEq, Int.reduceBEq, Int.reduceBNe, Int.reduceToNat]
    refine within_spec _ _ _ _ ?_
    have same : ∀ b : Bool, joinF l x t more = ⟨l, 0, [], b⟩ → K (.tup [.agg [.int .i64 l.i, .int .i64 l.t, .sl .no 3 (encO ps)], .int .i64 0, .sl .no 3 [], .bool b]) T := by
      intro b hjf
      have := hK ps T (by rw [hjf]; exact hp1) hp2 (fun p hp => ⟨hSp p hp, hTp p hp⟩) hTS
      rw [hjf] at this
      exact this
    have bad : meets l x t more = false → ∃ S', (∀ (i : Nat) (c : List PV), S' i = some c → T i = some c) ∧ K (.tup [.agg [.int .i64 l.i, .int .i64 l.t, .sl .no 3 (encO ps)], .int .i64 0, .sl .no 3 [], .bool false]) S' := by
      intro hmt
      exact ⟨T, fun _ _ h => h, same _ (by unfold joinF; rw [h, hmt]; rfl)⟩
    cases a1 : within t 0
    · simp -implicitDefEqProofs only [go_sem, ↓reduceIte, Nat.reduceEqDiff, Nat.reduceLT, Nat.reduceLeDiff, Nat.reduceAdd, Nat.reduceMul, Nat.reduceSub, reduceCtorEq, Nat.reduceMod, Nat.reduceBEq, Int.reduceBEq, Int.reduceBNe, Int.reduceToNat, a1, hT]
      exact bad (by simp [meets, a1])
    · simp -implicitDefEqProofs only [go_sem, ↓reduceIte, Nat.reduceEqDiff, Nat.reduceLT, Nat.reduceLeDiff, Nat.reduceAdd, Nat.reduceMul, Nat.reduceSub, reduceCtorEq, Nat.reduceMod, Nat.reduceBEq, Int.reduceBEq, Int.reduceBNe, Int.reduceToNat, a1]
      refine rise_spec x t more (by omega) _ _ ?_
      cases a2 : rise x t more
      · simp -implicitDefEqProofs only [go_sem, ↓reduceIte, Nat.reduceEqDiff, Nat.reduceLT, Nat.reduceLeDiff, Nat.reduceAdd, Nat.reduceMul, Nat.reduceSub, reduceCtorEq, Nat.reduceMod, Nat.reduceBEq, Int.reduceBEq, Int.reduceBNe, Int.reduceToNat, a2, hT]
        exact bad (by simp [meets, a2])
      · simp -implicitDefEqProofs only [go_sem, ↓reduceIte, Nat.reduceEqDiff, Nat.reduceLT, Nat.reduceLeDiff, Nat.reduceAdd, Nat.reduceMul, Nat.reduceSub, reduceCtorEq, Nat.reduceMod, Nat.reduceBEq, Int.reduceBEq, Int.reduceBNe, Int.reduceToNat, a2]
        by_cases a3 : (lastF l.i l.t l.rows).1 < x
        · simp -implicitDefEqProofs only [go_sem, ↓reduceIte, Nat.reduceEqDiff, Nat.reduceLT, Nat.reduceLeDiff, Nat.reduceAdd, Nat.reduceMul, Nat.reduceSub, reduceCtorEq, Nat.reduceMod, Nat.reduceBEq, Int.reduceBEq, Int.reduceBNe, Int.reduceToNat, a3, hT]
          exact bad (by simp [meets]; omega)
        · simp -implicitDefEqProofs only [go_sem, ↓reduceIte, Nat.reduceEqDiff, Nat.reduceLT, Nat.reduceLeDiff, Nat.reduceAdd, Nat.reduceMul, Nat.reduceSub, reduceCtorEq, Nat.reduceMod, Nat.reduceBEq, Int.reduceBEq, Int.reduceBNe, Int.reduceToNat, a3, hT]
          by_cases a4 : l.i ≤ x
          · simp -implicitDefEqProofs only [go_sem, ↓reduceIte, Nat.reduceEqDiff, Nat.reduceLT, Nat.reduceLeDiff, Nat.reduceAdd, Nat.reduceMul, Nat.reduceSub, reduceCtorEq, Nat.reduceMod, Nat.reduceBEq, Int.reduceBEq, Int.reduceBNe, Int.reduceToNat, a4, hT]
            cases a5 : (atF l x).2
            · simp -implicitDefEqProofs only [go_sem, ↓reduceIte, Nat.reduceEqDiff, Nat.reduceLT, Nat.reduceLeDiff, Nat.reduceAdd, Nat.reduceMul, Nat.reduceSub, reduceCtorEq, Nat.reduceMod, Nat.reduceBEq, Int.reduceBEq, Int.reduceBNe, Int.reduceToNat, a5, hT]
              exact bad (by simp [meets, a5]; omega)
            · simp -implicitDefEqProofs only [go_sem, ↓reduceIte, Nat.reduceEqDiff, Nat.reduceLT, Nat.reduceLeDiff, Nat.reduceAdd, Nat.reduceMul, Nat.reduceSub, reduceCtorEq, Nat.reduceMod, Nat.reduceBEq, Int.reduceBEq, Int.reduceBNe, Int.reduceToNat, a5, hT]
              cases a6 : (atF l x).1 != t
              · simp -implicitDefEqProofs only [go_sem, ↓reduceIte, Nat.reduceEqDiff, Nat.reduceLT, Nat.reduceLeDiff, Nat.reduceAdd, Nat.reduceMul, Nat.reduceSub, reduceCtorEq, Nat.reduceMod, Nat.reduceBEq, Int.reduceBEq, Int.reduceBNe, Int.reduceToNat, a6, hT]
                have hmt : meets l x t more = true := by
                  simp only [bne_eq_false_iff_eq] at a6
                  simp [meets, a1, a2, a5, a6]
                  omega
                refine vloop (fun e S' => S' = T ∧ ∃ k : Nat, k ≤ more.length ∧ x + k ≤ (lastF l.i l.t l.rows).1 ∧ e 72 = .sl .no 3 (encL more) ∧ e 73 = .int .i64 more.length ∧ e 74 = .int .i64 k ∧ e 4 = .ref id 0 ∧ e 8 = .fresh 3 ∧ e 3 = .sl .no 3 (encL more) ∧ e 9 = .int .i64 0 ∧ joinGo l more = joinGo l (more.drop k)) (fun e _ => more.length - iv (e 74)) ?_ ?_
                · exact ⟨rfl, 0, Nat.zero_le _, by omega, rfl, rfl, rfl, rfl, rfl, rfl, rfl, rfl⟩
                · rintro J M Q' hJ hM hQ e S' ⟨rfl, k, hk, hxk, h72, h73, h74, h4, h8, h3, h9, hj⟩
                  simp -implicitDefEqProofs only [go_sem, ↓reduceIte, Nat.reduceEqDiff, Nat.reduceLT, Nat.reduceLeDiff, Nat.reduceAdd, Nat.reduceMul, Nat.reduceSub, reduceCtorEq, Nat.reduceMod, Nat.reduceBEq, Int.reduceBEq, Int.reduceBNe, Int.reduceToNat, h72, h73, h74]
                  by_cases hlt : k < more.length
                  · obtain ⟨y, hy⟩ : ∃ y, more[k]? = some y := ⟨_, List.getElem?_eq_getElem hlt⟩
                    have hdy : more.drop k = y :: more.drop (k + 1) := by
                      rw [List.drop_eq_getElem_cons hlt]
                      rw [List.getElem?_eq_getElem hlt] at hy
                      injection hy with hy
                      rw [hy]
                    rw [hdy] at hj
                    obtain ⟨y1, y2, y3, y4, y5, y6⟩ := rise_get more x t a2 k y hy
                    have y7 := within_iff.1 y2
                    have y8 := within_iff.1 y3
                    have hin : (0 : Int) ≤ k ∧ (k : Int) < more.length := by omega
                    have hk1 : IntKind.i64.wrap ((k : Int) + 1) = ((k + 1 : Nat) : Int) := wrap64 (by omega) (by omega)
                    simp -implicitDefEqProofs only [go_sem, ↓reduceIte, Nat.reduceEqDiff, Nat.reduceLT, Nat.reduceLeDiff, Nat.reduceAdd, Nat.reduceMul, Nat.reduceSub, reduceCtorEq, Nat.reduceMod, Nat.reduceBEq, Int.reduceBEq, Int.reduceBNe, Int.reduceToNat, hin, h72, h73, h74, h4, hT, getD_encL hy, encE]
                    refine atO y.i (by omega) (by omega) _ ?_
                    simp -implicitDefEqProofs only [go_sem, ↓reduceIte, Nat.reduceEqDiff, Nat.reduceLT, Nat.reduceLeDiff, Nat.reduceAdd, Nat.reduceMul, Nat.reduceSub, reduceCtorEq, Nat.reduceMod, Nat.reduceBEq, Int.reduceBEq, Int.reduceBNe, Int.reduceToNat, h4, hT]
                    have skip : (y.i ≤ l.i ∨ ((atF l y.i).2 = true ∧ (atF l y.i).1 = y.t)) → x + ((k + 1 : Nat) : Int) ≤ (lastF l.i l.t l.rows).1 ∧ joinGo l more = joinGo l (more.drop (k + 1)) := by
                      intro hs
                      refine ⟨?_, by rw [hj, joinGo, if_pos hs]⟩
                      rcases hs with hs | hs
                      · omega
                      · have := at_le h hs.1
                        omega
                    have next : (y.i ≤ l.i ∨ ((atF l y.i).2 = true ∧ (atF l y.i).1 = y.t)) → ∀ e' : Env, e' 72 = .sl .no 3 (encL more) → e' 73 = .int .i64 more.length → e' 74 = .int .i64 ((k + 1 : Nat) : Int) → e' 4 = .ref id 0 → e' 8 = .fresh 3 → e' 3 = .sl .no 3 (encL more) → e' 9 = .int .i64 0 → loopK J M (more.length - iv (e 74)) Q' .normal e' S' := by
                      intro hs e' g72 g73 g74 g4 g8 g3 g9
                      obtain ⟨s1, s2⟩ := skip hs
                      refine vnext hJ hM S' (fun _ _ h => h) ⟨rfl, k + 1, hlt, s1, g72, g73, g74, g4, g8, g3, g9, s2⟩ ?_
                      rw [g74, h74]
                      simp only [iv_int, Int.toNat_natCast]
                      omega
                    rw [h74] at next
                    by_cases b1 : y.i ≤ l.i
                    · simp -implicitDefEqProofs only [go_sem, ↓reduceIte, Nat.reduceEqDiff, Nat.reduceLT, Nat.reduceLeDiff, Nat.reduceAdd, Nat.reduceMul, Nat.reduceSub, reduceCtorEq, Nat.reduceMod, Nat.reduceBEq, Int.reduceBEq, Int.reduceBNe, Int.reduceToNat, b1, h74, hk1]
                      refine next (.inl b1) _ ?_ ?_ ?_ ?_ ?_ ?_ ?_ <;> simp -implicitDefEqProofs only [go_sem, ↓reduceIte, Nat.reduceEqDiff, Nat.reduceLT, Nat.reduceLeDiff, Nat.reduceAdd, Nat.reduceMul, Nat.reduceSub, reduceCtorEq, Nat.reduceMod, Nat.reduceBEq, Int.reduceBEq, Int.reduceBNe, Int.reduceToNat, h72, h73, h4, h8, h3, h9]
                    · simp -implicitDefEqProofs only [go_sem, ↓reduceIte, Nat.reduceEqDiff, Nat.reduceLT, Nat.reduceLeDiff, Nat.reduceAdd, Nat.reduceMul, Nat.reduceSub, reduceCtorEq, Nat.reduceMod, Nat.reduceBEq, Int.reduceBEq, Int.reduceBNe, Int.reduceToNat, b1]
                      rcases (Bool.eq_false_or_eq_true (atF l y.i).2).symm with b2 | b2
                      · have hs : ¬ (y.i ≤ l.i ∨ ((atF l y.i).2 = true ∧ (atF l y.i).1 = y.t)) := by
                          rw [b2]; simp; omega
                        simp -implicitDefEqProofs only [go_sem, ↓reduceIte, Nat.reduceEqDiff, Nat.reduceLT, Nat.reduceLeDiff, Nat.reduceAdd, Nat.reduceMul, Nat.reduceSub, reduceCtorEq, Nat.reduceMod, Nat.reduceBEq, Int.reduceBEq, Int.reduceBNe, Int.reduceToNat, b2]
                        have hb1 : IntKind.i64.wrap (y.i - 1) = y.i - 1 := wrap64 (by omega) (by omega)
                        simp -implicitDefEqProofs only [go_sem, ↓reduceIte, Nat.reduceEqDiff, Nat.reduceLT, Nat.reduceLeDiff, Nat.reduceAdd, Nat.reduceMul, Nat.reduceSub, reduceCtorEq, Nat.reduceMod, Nat.reduceBEq, Int.reduceBEq, Int.reduceBNe, Int.reduceToNat, h4, hb1, hT]
                        refine atO (y.i - 1) (by omega) (by omega) _ ?_
                        simp -implicitDefEqProofs only [go_sem, ↓reduceIte, Nat.reduceEqDiff, Nat.reduceLT, Nat.reduceLeDiff, Nat.reduceAdd, Nat.reduceMul, Nat.reduceSub, reduceCtorEq, Nat.reduceMod, Nat.reduceBEq, Int.reduceBEq, Int.reduceBNe, Int.reduceToNat]
                        by_cases b4 : y.t < (atF l (y.i - 1)).1
                        · simp -implicitDefEqProofs only [go_sem, ↓reduceIte, Nat.reduceEqDiff, Nat.reduceLT, Nat.reduceLeDiff, Nat.reduceAdd, Nat.reduceMul, Nat.reduceSub, reduceCtorEq, Nat.reduceMod, Nat.reduceBEq, Int.reduceBEq, Int.reduceBNe, Int.reduceToNat, b4, h4, h8, hT]
                          refine hQ _ _ _ ?_
                          simp -implicitDefEqProofs only [go_sem, ↓reduceIte, Nat.reduceEqDiff, Nat.reduceLT, Nat.reduceLeDiff, Nat.reduceAdd, Nat.reduceMul, Nat.reduceSub, reduceCtorEq, Nat.reduceMod, Nat.reduceBEq, Int.reduceBEq, Int.reduceBNe, Int.reduceToNat]
                          have hjf : joinF l x t more = ⟨l, 0, [], false⟩ := by
                            unfold joinF; rw [h, hmt]; simp only [if_true]; rw [hj, joinGo, if_neg hs, if_pos b4]
                          exact ⟨S', fun _ _ h => h, same _ hjf⟩
                        · simp -implicitDefEqProofs only [go_sem, ↓reduceIte, Nat.reduceEqDiff, Nat.reduceLT, Nat.reduceLeDiff, Nat.reduceAdd, Nat.reduceMul, Nat.reduceSub, reduceCtorEq, Nat.reduceMod, Nat.reduceBEq, Int.reduceBEq, Int.reduceBNe, Int.reduceToNat, b4, h3]
                          have htk : List.take (more.length - k) (List.drop k more) = more.drop k := List.take_of_length_le (by simp)
                          rw [htk]
                          refine ⟨by omega, ownO_spec (more.drop k) (by simp; omega) (fun e he => by have := rise_d more x t a2 e (List.mem_of_mem_drop he); omega) _ _ fun qs hq1 hq2 hq3 => ?_⟩
                          have hw1 : IntKind.i64.wrap (y.i - l.i) = y.i - l.i := wrap64 (by omega) (by omega)
                          have hw2 : IntKind.i64.wrap (y.i - l.i - 1) = y.i - l.i - 1 := wrap64 (by omega) (by omega)
                          have hlast := lastF_i _ _ _ hr
                          have hz : (0 : Int) ≤ 0 ∧ 0 ≤ y.i - l.i - 1 ∧ y.i - l.i - 1 ≤ ps.length := by omega
                          have hqid : ∀ q ∈ qs.reverse, q.1 ≠ id := fun q hq e => by
                            have := hq3 q (List.mem_reverse.1 hq)
                            rw [e, hT] at this
                            cases this
                          have hT2 : SO S' qs.reverse id = some [.int .i64 l.i, .int .i64 l.t, .sl .no 3 (encO ps)] := by rw [SO_out hqid]; exact hT
                          have hnr : (qs.reverse.map (·.1)).Nodup := by rw [List.map_reverse]; exact List.pairwise_reverse.2 (hq2.imp Ne.symm)
                          simp -implicitDefEqProofs only [go_sem, ↓reduceIte, Nat.reduceEqDiff, Nat.reduceLT, Nat.reduceLeDiff, Nat.reduceAdd, Nat.reduceMul, Nat.reduceSub, reduceCtorEq, Nat.reduceMod, Nat.reduceBEq, Int.reduceBEq, Int.reduceBNe, Int.reduceToNat, b2, h4, hw1, hw2, hz, hT2]
                          have hfl : [ps.take (y.i - l.i - 1).toNat, qs].flatten = ps.take (y.i - l.i - 1).toNat ++ qs := by simp
                          have hql : qs.length ≤ 100000 := by
                            have := congrArg List.length hq1
                            rw [List.length_map, List.length_drop] at this
                            omega
                          refine concatO_spec [ps.take (y.i - l.i - 1).toNat, qs] (by simp) (by simp [lensO]; omega) _ _ ?_
                          rw [hfl]
                          simp -implicitDefEqProofs only [go_sem, ↓reduceIte, Nat.reduceEqDiff, Nat.reduceLT, Nat.reduceLeDiff, Nat.reduceAdd, Nat.reduceMul, Nat.reduceSub, reduceCtorEq, Nat.reduceMod, Nat.reduceBEq, Int.reduceBEq, Int.reduceBNe, Int.reduceToNat, b2, h4, hT2]
                          refine vwp_draw (by decide +kernel) ?_
                          simp -implicitDefEqProofs only [go_sem, ↓reduceIte, Nat.reduceEqDiff, Nat.reduceLT, Nat.reduceLeDiff, Nat.reduceAdd, Nat.reduceMul, Nat.reduceSub, reduceCtorEq, Nat.reduceMod, Nat.reduceBEq, Int.reduceBEq, Int.reduceBNe, Int.reduceToNat, h4, h8, h9]
                          have hqd : ∀ q ∈ qs, q.2.d.length ≤ 140737488351232 := fun q hq => by
                            have : q.2 ∈ more.drop k := by rw [← hq1]; exact List.mem_map.2 ⟨q, hq, rfl⟩
                            have := rise_d more x t a2 _ (List.mem_of_mem_drop this)
                            omega
                          have hqs : ∀ q ∈ qs, ((SO S' qs.reverse).set id (some [.int .i64 l.i, .int .i64 l.t, .sl .no 3 (encO (ps.take (y.i - l.i - 1).toNat ++ qs))])) q.1 = some (cellsD q.2.d) := fun q hq => by
                            simp only [Store.set]
                            rw [if_neg (hqid q (List.mem_reverse.2 hq))]
                            exact SO_in hnr (List.mem_reverse.2 hq)
                          refine q_call _ (by simp -implicitDefEqProofs only [go_sem, ↓reduceIte, Nat.reduceEqDiff, Nat.reduceLT, Nat.reduceLeDiff, Nat.reduceAdd, Nat.reduceMul, Nat.reduceSub, reduceCtorEq, Nat.reduceMod, Nat.reduceBEq, Int.reduceBEq, Int.reduceBNe, Int.reduceToNat]; exact ownA_spec qs hql hqd _ hqs) (by decide) rfl ?_
                          simp -implicitDefEqProofs only [go_sem, ↓reduceIte, Nat.reduceEqDiff, Nat.reduceLT, Nat.reduceLeDiff, Nat.reduceAdd, Nat.reduceMul, Nat.reduceSub, reduceCtorEq, Nat.reduceMod, Nat.reduceBEq, Int.reduceBEq, Int.reduceBNe, Int.reduceToNat, h4, h8, h9]
                          refine hQ _ _ _ ?_
                          simp -implicitDefEqProofs only [go_sem, ↓reduceIte, Nat.reduceEqDiff, Nat.reduceLT, Nat.reduceLeDiff, Nat.reduceAdd, Nat.reduceMul, Nat.reduceSub, reduceCtorEq, Nat.reduceMod, Nat.reduceBEq, Int.reduceBEq, Int.reduceBNe, Int.reduceToNat]
                          refine ⟨_, fun _ _ h => h, ?_⟩
                          have hjf : joinF l x t more = ⟨⟨l.i, l.t, l.rows.take (y.i - l.i - 1).toNat ++ more.drop k⟩, if (atF l y.i).2 then y.i else 0, more.drop k, true⟩ := by
                            unfold joinF; rw [h, hmt]; simp only [if_true]; rw [hj, joinGo, if_neg hs, if_neg b4, ← hdy]
                          refine (fun this => ?_) (hK (ps.take (y.i - l.i - 1).toNat ++ qs) ((SO S' qs.reverse).set id (some [.int .i64 l.i, .int .i64 l.t, .sl .no 3 (encO (ps.take (y.i - l.i - 1).toNat ++ qs))])) (by rw [hjf, List.map_append, hq1, List.map_take, hp1]) ?_ (fun q hq => ?_) (fun i c hi => ?_))
                          · rw [hjf, b2] at this
                            simp only [if_true, Bool.false_eq_true, if_false] at this
                            rw [hq1]
                            exact this
                          · rw [List.map_append, List.nodup_append]
                            refine ⟨List.Nodup.sublist ((List.take_sublist _ _).map _) hp2, hq2, fun a ha b hb => ?_⟩
                            obtain ⟨p, hp, rfl⟩ := List.mem_map.1 ha
                            obtain ⟨q, hq, rfl⟩ := List.mem_map.1 hb
                            intro e
                            have h1 := hq3 q hq
                            rw [← e, hTp p (List.mem_of_mem_take hp)] at h1
                            cases h1
                          · rcases List.mem_append.1 hq with hq | hq
                            · have hqm := List.mem_of_mem_take hq
                              refine ⟨hSp q hqm, ?_⟩
                              simp only [Store.set]
                              rw [if_neg (hpid q hqm), SO_out (fun r hr e => by have h1 := hq3 r (List.mem_reverse.1 hr); rw [e, hTp q hqm] at h1; cases h1)]
                              exact hTp q hqm
                            · refine ⟨?_, ?_⟩
                              · cases hSq : S q.1 with
                                | none => rfl
                                | some c => have h1 := hq3 q hq; rw [hTS _ _ hSq] at h1; cases h1
                              · simp only [Store.set]
                                rw [if_neg (hqid q (List.mem_reverse.2 hq))]
                                exact SO_in hnr (List.mem_reverse.2 hq)
                          · simp only [Store.set]
                            rw [if_neg (fun e => by rw [e, hid] at hi; cases hi), SO_out (fun r hr e => by have h1 := hq3 r (List.mem_reverse.1 hr); rw [e, hTS _ _ hi] at h1; cases h1)]
                            exact hTS i c hi
                      · rcases (Bool.eq_false_or_eq_true ((atF l y.i).1 == y.t)).symm with b3 | b3
                        · have hs : ¬ (y.i ≤ l.i ∨ ((atF l y.i).2 = true ∧ (atF l y.i).1 = y.t)) := by
                            simp only [beq_eq_false_iff_ne, ne_eq] at b3
                            rw [b2]; simp [b3]; omega
                          simp -implicitDefEqProofs only [go_sem, ↓reduceIte, Nat.reduceEqDiff, Nat.reduceLT, Nat.reduceLeDiff, Nat.reduceAdd, Nat.reduceMul, Nat.reduceSub, reduceCtorEq, Nat.reduceMod, Nat.reduceBEq, Int.reduceBEq, Int.reduceBNe, Int.reduceToNat, b2, b3]
                          have hb1 : IntKind.i64.wrap (y.i - 1) = y.i - 1 := wrap64 (by omega) (by omega)
                          simp -implicitDefEqProofs only [go_sem, ↓reduceIte, Nat.reduceEqDiff, Nat.reduceLT, Nat.reduceLeDiff, Nat.reduceAdd, Nat.reduceMul, Nat.reduceSub, reduceCtorEq, Nat.reduceMod, Nat.reduceBEq, Int.reduceBEq, Int.reduceBNe, Int.reduceToNat, h4, hb1, hT]
                          refine atO (y.i - 1) (by omega) (by omega) _ ?_
                          simp -implicitDefEqProofs only [go_sem, ↓reduceIte, Nat.reduceEqDiff, Nat.reduceLT, Nat.reduceLeDiff, Nat.reduceAdd, Nat.reduceMul, Nat.reduceSub, reduceCtorEq, Nat.reduceMod, Nat.reduceBEq, Int.reduceBEq, Int.reduceBNe, Int.reduceToNat]
                          by_cases b4 : y.t < (atF l (y.i - 1)).1
                          · simp -implicitDefEqProofs only [go_sem, ↓reduceIte, Nat.reduceEqDiff, Nat.reduceLT, Nat.reduceLeDiff, Nat.reduceAdd, Nat.reduceMul, Nat.reduceSub, reduceCtorEq, Nat.reduceMod, Nat.reduceBEq, Int.reduceBEq, Int.reduceBNe, Int.reduceToNat, b4, h4, h8, hT]
                            refine hQ _ _ _ ?_
                            simp -implicitDefEqProofs only [go_sem, ↓reduceIte, Nat.reduceEqDiff, Nat.reduceLT, Nat.reduceLeDiff, Nat.reduceAdd, Nat.reduceMul, Nat.reduceSub, reduceCtorEq, Nat.reduceMod, Nat.reduceBEq, Int.reduceBEq, Int.reduceBNe, Int.reduceToNat]
                            have hjf : joinF l x t more = ⟨l, 0, [], false⟩ := by
                              unfold joinF; rw [h, hmt]; simp only [if_true]; rw [hj, joinGo, if_neg hs, if_pos b4]
                            exact ⟨S', fun _ _ h => h, same _ hjf⟩
                          · simp -implicitDefEqProofs only [go_sem, ↓reduceIte, Nat.reduceEqDiff, Nat.reduceLT, Nat.reduceLeDiff, Nat.reduceAdd, Nat.reduceMul, Nat.reduceSub, reduceCtorEq, Nat.reduceMod, Nat.reduceBEq, Int.reduceBEq, Int.reduceBNe, Int.reduceToNat, b4, h3]
                            have htk : List.take (more.length - k) (List.drop k more) = more.drop k := List.take_of_length_le (by simp)
                            rw [htk]
                            refine ⟨by omega, ownO_spec (more.drop k) (by simp; omega) (fun e he => by have := rise_d more x t a2 e (List.mem_of_mem_drop he); omega) _ _ fun qs hq1 hq2 hq3 => ?_⟩
                            have hw1 : IntKind.i64.wrap (y.i - l.i) = y.i - l.i := wrap64 (by omega) (by omega)
                            have hw2 : IntKind.i64.wrap (y.i - l.i - 1) = y.i - l.i - 1 := wrap64 (by omega) (by omega)
                            have hlast := lastF_i _ _ _ hr
                            have hz : (0 : Int) ≤ 0 ∧ 0 ≤ y.i - l.i - 1 ∧ y.i - l.i - 1 ≤ ps.length := by omega
                            have hqid : ∀ q ∈ qs.reverse, q.1 ≠ id := fun q hq e => by
                              have := hq3 q (List.mem_reverse.1 hq)
                              rw [e, hT] at this
                              cases this
                            have hT2 : SO S' qs.reverse id = some [.int .i64 l.i, .int .i64 l.t, .sl .no 3 (encO ps)] := by rw [SO_out hqid]; exact hT
                            have hnr : (qs.reverse.map (·.1)).Nodup := by rw [List.map_reverse]; exact List.pairwise_reverse.2 (hq2.imp Ne.symm)
                            simp -implicitDefEqProofs only [go_sem, ↓reduceIte, Nat.reduceEqDiff, Nat.reduceLT, Nat.reduceLeDiff, Nat.reduceAdd, Nat.reduceMul, Nat.reduceSub, reduceCtorEq, Nat.reduceMod, Nat.reduceBEq, Int.reduceBEq, Int.reduceBNe, Int.reduceToNat, b2, h4, hw1, hw2, hz, hT2]
                            have hfl : [ps.take (y.i - l.i - 1).toNat, qs].flatten = ps.take (y.i - l.i - 1).toNat ++ qs := by simp
                            have hql : qs.length ≤ 100000 := by
                              have := congrArg List.length hq1
                              rw [List.length_map, List.length_drop] at this
                              omega
                            refine concatO_spec [ps.take (y.i - l.i - 1).toNat, qs] (by simp) (by simp [lensO]; omega) _ _ ?_
                            rw [hfl]
                            simp -implicitDefEqProofs only [go_sem, ↓reduceIte, Nat.reduceEqDiff, Nat.reduceLT, Nat.reduceLeDiff, Nat.reduceAdd, Nat.reduceMul, Nat.reduceSub, reduceCtorEq, Nat.reduceMod, Nat.reduceBEq, Int.reduceBEq, Int.reduceBNe, Int.reduceToNat, b2, h4, hT2]
                            refine vwp_draw (by decide +kernel) ?_
                            simp -implicitDefEqProofs only [go_sem, ↓reduceIte, Nat.reduceEqDiff, Nat.reduceLT, Nat.reduceLeDiff, Nat.reduceAdd, Nat.reduceMul, Nat.reduceSub, reduceCtorEq, Nat.reduceMod, Nat.reduceBEq, Int.reduceBEq, Int.reduceBNe, Int.reduceToNat, h4, h8, h9]
                            have hqd : ∀ q ∈ qs, q.2.d.length ≤ 140737488351232 := fun q hq => by
                              have : q.2 ∈ more.drop k := by rw [← hq1]; exact List.mem_map.2 ⟨q, hq, rfl⟩
                              have := rise_d more x t a2 _ (List.mem_of_mem_drop this)
                              omega
                            have hqs : ∀ q ∈ qs, ((SO S' qs.reverse).set id (some [.int .i64 l.i, .int .i64 l.t, .sl .no 3 (encO (ps.take (y.i - l.i - 1).toNat ++ qs))])) q.1 = some (cellsD q.2.d) := fun q hq => by
                              simp only [Store.set]
                              rw [if_neg (hqid q (List.mem_reverse.2 hq))]
                              exact SO_in hnr (List.mem_reverse.2 hq)
                            refine q_call _ (by simp -implicitDefEqProofs only [go_sem, ↓reduceIte, Nat.reduceEqDiff, Nat.reduceLT, Nat.reduceLeDiff, Nat.reduceAdd, Nat.reduceMul, Nat.reduceSub, reduceCtorEq, Nat.reduceMod, Nat.reduceBEq, Int.reduceBEq, Int.reduceBNe, Int.reduceToNat]; exact ownA_spec qs hql hqd _ hqs) (by decide) rfl ?_
                            simp -implicitDefEqProofs only [go_sem, ↓reduceIte, Nat.reduceEqDiff, Nat.reduceLT, Nat.reduceLeDiff, Nat.reduceAdd, Nat.reduceMul, Nat.reduceSub, reduceCtorEq, Nat.reduceMod, Nat.reduceBEq, Int.reduceBEq, Int.reduceBNe, Int.reduceToNat, h4, h8, h9]
                            refine hQ _ _ _ ?_
                            simp -implicitDefEqProofs only [go_sem, ↓reduceIte, Nat.reduceEqDiff, Nat.reduceLT, Nat.reduceLeDiff, Nat.reduceAdd, Nat.reduceMul, Nat.reduceSub, reduceCtorEq, Nat.reduceMod, Nat.reduceBEq, Int.reduceBEq, Int.reduceBNe, Int.reduceToNat]
                            refine ⟨_, fun _ _ h => h, ?_⟩
                            have hjf : joinF l x t more = ⟨⟨l.i, l.t, l.rows.take (y.i - l.i - 1).toNat ++ more.drop k⟩, if (atF l y.i).2 then y.i else 0, more.drop k, true⟩ := by
                              unfold joinF; rw [h, hmt]; simp only [if_true]; rw [hj, joinGo, if_neg hs, if_neg b4, ← hdy]
                            refine (fun this => ?_) (hK (ps.take (y.i - l.i - 1).toNat ++ qs) ((SO S' qs.reverse).set id (some [.int .i64 l.i, .int .i64 l.t, .sl .no 3 (encO (ps.take (y.i - l.i - 1).toNat ++ qs))])) (by rw [hjf, List.map_append, hq1, List.map_take, hp1]) ?_ (fun q hq => ?_) (fun i c hi => ?_))
                            · rw [hjf, b2] at this
                              simp only [if_true, Bool.false_eq_true, if_false] at this
                              rw [hq1]
                              exact this
                            · rw [List.map_append, List.nodup_append]
                              refine ⟨List.Nodup.sublist ((List.take_sublist _ _).map _) hp2, hq2, fun a ha b hb => ?_⟩
                              obtain ⟨p, hp, rfl⟩ := List.mem_map.1 ha
                              obtain ⟨q, hq, rfl⟩ := List.mem_map.1 hb
                              intro e
                              have h1 := hq3 q hq
                              rw [← e, hTp p (List.mem_of_mem_take hp)] at h1
                              cases h1
                            · rcases List.mem_append.1 hq with hq | hq
                              · have hqm := List.mem_of_mem_take hq
                                refine ⟨hSp q hqm, ?_⟩
                                simp only [Store.set]
                                rw [if_neg (hpid q hqm), SO_out (fun r hr e => by have h1 := hq3 r (List.mem_reverse.1 hr); rw [e, hTp q hqm] at h1; cases h1)]
                                exact hTp q hqm
                              · refine ⟨?_, ?_⟩
                                · cases hSq : S q.1 with
                                  | none => rfl
                                  | some c => have h1 := hq3 q hq; rw [hTS _ _ hSq] at h1; cases h1
                                · simp only [Store.set]
                                  rw [if_neg (hqid q (List.mem_reverse.2 hq))]
                                  exact SO_in hnr (List.mem_reverse.2 hq)
                            · simp only [Store.set]
                              rw [if_neg (fun e => by rw [e, hid] at hi; cases hi), SO_out (fun r hr e => by have h1 := hq3 r (List.mem_reverse.1 hr); rw [e, hTS _ _ hi] at h1; cases h1)]
                              exact hTS i c hi
                        · have b3' : (atF l y.i).1 = y.t := by simpa using b3
                          simp -implicitDefEqProofs only [go_sem, ↓reduceIte, Nat.reduceEqDiff, Nat.reduceLT, Nat.reduceLeDiff, Nat.reduceAdd, Nat.reduceMul, Nat.reduceSub, reduceCtorEq, Nat.reduceMod, Nat.reduceBEq, Int.reduceBEq, Int.reduceBNe, Int.reduceToNat, b2, b3, h74, hk1]
                          refine next (.inr ⟨b2, b3'⟩) _ ?_ ?_ ?_ ?_ ?_ ?_ ?_ <;> simp -implicitDefEqProofs only [go_sem, ↓reduceIte, Nat.reduceEqDiff, Nat.reduceLT, Nat.reduceLeDiff, Nat.reduceAdd, Nat.reduceMul, Nat.reduceSub, reduceCtorEq, Nat.reduceMod, Nat.reduceBEq, Int.reduceBEq, Int.reduceBNe, Int.reduceToNat, h72, h73, h4, h8, h3, h9]
                  · have hc : ¬ (k : Int) < more.length := by omega
                    simp -implicitDefEqProofs only [go_sem, ↓reduceIte, Nat.reduceEqDiff, Nat.reduceLT, Nat.reduceLeDiff, Nat.reduceAdd, Nat.reduceMul, Nat.reduceSub, reduceCtorEq, Nat.reduceMod, Nat.reduceBEq, Int.reduceBEq, Int.reduceBNe, Int.reduceToNat, hc]
                    refine hQ _ _ _ ?_
                    simp -implicitDefEqProofs only [go_sem, ↓reduceIte, Nat.reduceEqDiff, Nat.reduceLT, Nat.reduceLeDiff, Nat.reduceAdd, Nat.reduceMul, Nat.reduceSub, reduceCtorEq, Nat.reduceMod, Nat.reduceBEq, Int.reduceBEq, Int.reduceBNe, Int.reduceToNat, h4, h8, hT]
                    rw [List.drop_of_length_le (by omega)] at hj
                    have hjf : joinF l x t more = ⟨l, 0, [], true⟩ := by
                      unfold joinF; rw [h, hmt]; simp only [if_true]; rw [hj]; rfl
                    exact ⟨S', fun _ _ h => h, same _ hjf⟩
              · simp -implicitDefEqProofs only [go_sem, ↓reduceIte, Nat.reduceEqDiff, Nat.reduceLT, Nat.reduceLeDiff, Nat.reduceAdd, Nat.reduceMul, Nat.reduceSub, reduceCtorEq, Nat.reduceMod, Nat.reduceBEq, Int.reduceBEq, Int.reduceBNe, Int.reduceToNat, a6, hT]
                exact bad (by
                  simp only [bne_iff_ne, ne_eq] at a6
                  simp [meets, a6]
                  omega)
          · simp -implicitDefEqProofs only [go_sem, ↓reduceIte, Nat.reduceEqDiff, Nat.reduceLT, Nat.reduceLeDiff, Nat.reduceAdd, Nat.reduceMul, Nat.reduceSub, reduceCtorEq, Nat.reduceMod, Nat.reduceBEq, Int.reduceBEq, Int.reduceBNe, Int.reduceToNat, a4, hT]
            have hmt : meets l x t more = true := by
              simp [meets, a1, a2]
              omega
            refine vloop (fun e S' => S' = T ∧ ∃ k : Nat, k ≤ more.length ∧ x + k ≤ (lastF l.i l.t l.rows).1 ∧ e 72 = .sl .no 3 (encL more) ∧ e 73 = .int .i64 more.length ∧ e 74 = .int .i64 k ∧ e 4 = .ref id 0 ∧ e 8 = .fresh 3 ∧ e 3 = .sl .no 3 (encL more) ∧ e 9 = .int .i64 0 ∧ joinGo l more = joinGo l (more.drop k)) (fun e _ => more.length - iv (e 74)) ?_ ?_
            · exact ⟨rfl, 0, Nat.zero_le _, by omega, rfl, rfl, rfl, rfl, rfl, rfl, rfl, rfl⟩
            · rintro J M Q' hJ hM hQ e S' ⟨rfl, k, hk, hxk, h72, h73, h74, h4, h8, h3, h9, hj⟩
              simp -implicitDefEqProofs only [go_sem, ↓reduceIte, Nat.reduceEqDiff, Nat.reduceLT, Nat.reduceLeDiff, Nat.reduceAdd, Nat.reduceMul, Nat.reduceSub, reduceCtorEq, Nat.reduceMod, Nat.reduceBEq, Int.reduceBEq, Int.reduceBNe, Int.reduceToNat, h72, h73, h74]
              by_cases hlt : k < more.length
              · obtain ⟨y, hy⟩ : ∃ y, more[k]? = some y := ⟨_, List.getElem?_eq_getElem hlt⟩
                have hdy : more.drop k = y :: more.drop (k + 1) := by
                  rw [List.drop_eq_getElem_cons hlt]
                  rw [List.getElem?_eq_getElem hlt] at hy
                  injection hy with hy
                  rw [hy]
                rw [hdy] at hj
                obtain ⟨y1, y2, y3, y4, y5, y6⟩ := rise_get more x t a2 k y hy
                have y7 := within_iff.1 y2
                have y8 := within_iff.1 y3
                have hin : (0 : Int) ≤ k ∧ (k : Int) < more.length := by omega
                have hk1 : IntKind.i64.wrap ((k : Int) + 1) = ((k + 1 : Nat) : Int) := wrap64 (by omega) (by omega)
                simp -implicitDefEqProofs only [go_sem, ↓reduceIte, Nat.reduceEqDiff, Nat.reduceLT, Nat.reduceLeDiff, Nat.reduceAdd, Nat.reduceMul, Nat.reduceSub, reduceCtorEq, Nat.reduceMod, Nat.reduceBEq, Int.reduceBEq, Int.reduceBNe, Int.reduceToNat, hin, h72, h73, h74, h4, hT, getD_encL hy, encE]
                refine atO y.i (by omega) (by omega) _ ?_
                simp -implicitDefEqProofs only [go_sem, ↓reduceIte, Nat.reduceEqDiff, Nat.reduceLT, Nat.reduceLeDiff, Nat.reduceAdd, Nat.reduceMul, Nat.reduceSub, reduceCtorEq, Nat.reduceMod, Nat.reduceBEq, Int.reduceBEq, Int.reduceBNe, Int.reduceToNat, h4, hT]
                have skip : (y.i ≤ l.i ∨ ((atF l y.i).2 = true ∧ (atF l y.i).1 = y.t)) → x + ((k + 1 : Nat) : Int) ≤ (lastF l.i l.t l.rows).1 ∧ joinGo l more = joinGo l (more.drop (k + 1)) := by
                  intro hs
                  refine ⟨?_, by rw [hj, joinGo, if_pos hs]⟩
                  rcases hs with hs | hs
                  · omega
                  · have := at_le h hs.1
                    omega
                have next : (y.i ≤ l.i ∨ ((atF l y.i).2 = true ∧ (atF l y.i).1 = y.t)) → ∀ e' : Env, e' 72 = .sl .no 3 (encL more) → e' 73 = .int .i64 more.length → e' 74 = .int .i64 ((k + 1 : Nat) : Int) → e' 4 = .ref id 0 → e' 8 = .fresh 3 → e' 3 = .sl .no 3 (encL more) → e' 9 = .int .i64 0 → loopK J M (more.length - iv (e 74)) Q' .normal e' S' := by
                  intro hs e' g72 g73 g74 g4 g8 g3 g9
                  obtain ⟨s1, s2⟩ := skip hs
                  refine vnext hJ hM S' (fun _ _ h => h) ⟨rfl, k + 1, hlt, s1, g72, g73, g74, g4, g8, g3, g9, s2⟩ ?_
                  rw [g74, h74]
                  simp only [iv_int, Int.toNat_natCast]
                  omega
                rw [h74] at next
                by_cases b1 : y.i ≤ l.i
                · simp -implicitDefEqProofs only [go_sem, ↓reduceIte, Nat.reduceEqDiff, Nat.reduceLT, Nat.reduceLeDiff, Nat.reduceAdd, Nat.reduceMul, Nat.reduceSub, reduceCtorEq, Nat.reduceMod, Nat.reduceBEq, Int.reduceBEq, Int.reduceBNe, Int.reduceToNat, b1, h74, hk1]
                  refine next (.inl b1) _ ?_ ?_ ?_ ?_ ?_ ?_ ?_ <;> simp -implicitDefEqProofs only [go_sem, ↓reduceIte, Nat.reduceEqDiff, Nat.reduceLT, Nat.reduceLeDiff, Nat.reduceAdd, Nat.reduceMul, Nat.reduceSub, reduceCtorEq, Nat.reduceMod, Nat.reduceBEq, Int.reduceBEq, Int.reduceBNe, Int.reduceToNat, h72, h73, h4, h8, h3, h9]
                · simp -implicitDefEqProofs only [go_sem, ↓reduceIte, Nat.reduceEqDiff, Nat.reduceLT, Nat.reduceLeDiff, Nat.reduceAdd, Nat.reduceMul, Nat.reduceSub, reduceCtorEq, Nat.reduceMod, Nat.reduceBEq, Int.reduceBEq, Int.reduceBNe, Int.reduceToNat, b1]
                  rcases (Bool.eq_false_or_eq_true (atF l y.i).2).symm with b2 | b2
                  · have hs : ¬ (y.i ≤ l.i ∨ ((atF l y.i).2 = true ∧ (atF l y.i).1 = y.t)) := by
                      rw [b2]; simp; omega
                    simp -implicitDefEqProofs only [go_sem, ↓reduceIte, Nat.reduceEqDiff, Nat.reduceLT, Nat.reduceLeDiff, Nat.reduceAdd, Nat.reduceMul, Nat.reduceSub, reduceCtorEq, Nat.reduceMod, Nat.reduceBEq, Int.reduceBEq, Int.reduceBNe, Int.reduceToNat, b2]
                    have hb1 : IntKind.i64.wrap (y.i - 1) = y.i - 1 := wrap64 (by omega) (by omega)
                    simp -implicitDefEqProofs only [go_sem, ↓reduceIte, Nat.reduceEqDiff, Nat.reduceLT, Nat.reduceLeDiff, Nat.reduceAdd, Nat.reduceMul, Nat.reduceSub, reduceCtorEq, Nat.reduceMod, Nat.reduceBEq, Int.reduceBEq, Int.reduceBNe, Int.reduceToNat, h4, hb1, hT]
                    refine atO (y.i - 1) (by omega) (by omega) _ ?_
                    simp -implicitDefEqProofs only [go_sem, ↓reduceIte, Nat.reduceEqDiff, Nat.reduceLT, Nat.reduceLeDiff, Nat.reduceAdd, Nat.reduceMul, Nat.reduceSub, reduceCtorEq, Nat.reduceMod, Nat.reduceBEq, Int.reduceBEq, Int.reduceBNe, Int.reduceToNat]
                    by_cases b4 : y.t < (atF l (y.i - 1)).1
                    · simp -implicitDefEqProofs only [go_sem, ↓reduceIte, Nat.reduceEqDiff, Nat.reduceLT, Nat.reduceLeDiff, Nat.reduceAdd, Nat.reduceMul, Nat.reduceSub, reduceCtorEq, Nat.reduceMod, Nat.reduceBEq, Int.reduceBEq, Int.reduceBNe, Int.reduceToNat, b4, h4, h8, hT]
                      refine hQ _ _ _ ?_
                      simp -implicitDefEqProofs only [go_sem, ↓reduceIte, Nat.reduceEqDiff, Nat.reduceLT, Nat.reduceLeDiff, Nat.reduceAdd, Nat.reduceMul, Nat.reduceSub, reduceCtorEq, Nat.reduceMod, Nat.reduceBEq, Int.reduceBEq, Int.reduceBNe, Int.reduceToNat]
                      have hjf : joinF l x t more = ⟨l, 0, [], false⟩ := by
                        unfold joinF; rw [h, hmt]; simp only [if_true]; rw [hj, joinGo, if_neg hs, if_pos b4]
                      exact ⟨S', fun _ _ h => h, same _ hjf⟩
                    · simp -implicitDefEqProofs only [go_sem, ↓reduceIte, Nat.reduceEqDiff, Nat.reduceLT, Nat.reduceLeDiff, Nat.reduceAdd, Nat.reduceMul, Nat.reduceSub, reduceCtorEq, Nat.reduceMod, Nat.reduceBEq, Int.reduceBEq, Int.reduceBNe, Int.reduceToNat, b4, h3]
                      have htk : List.take (more.length - k) (List.drop k more) = more.drop k := List.take_of_length_le (by simp)
                      rw [htk]
                      refine ⟨by omega, ownO_spec (more.drop k) (by simp; omega) (fun e he => by have := rise_d more x t a2 e (List.mem_of_mem_drop he); omega) _ _ fun qs hq1 hq2 hq3 => ?_⟩
                      have hw1 : IntKind.i64.wrap (y.i - l.i) = y.i - l.i := wrap64 (by omega) (by omega)
                      have hw2 : IntKind.i64.wrap (y.i - l.i - 1) = y.i - l.i - 1 := wrap64 (by omega) (by omega)
                      have hlast := lastF_i _ _ _ hr
                      have hz : (0 : Int) ≤ 0 ∧ 0 ≤ y.i - l.i - 1 ∧ y.i - l.i - 1 ≤ ps.length := by omega
                      have hqid : ∀ q ∈ qs.reverse, q.1 ≠ id := fun q hq e => by
                        have := hq3 q (List.mem_reverse.1 hq)
                        rw [e, hT] at this
                        cases this
                      have hT2 : SO S' qs.reverse id = some [.int .i64 l.i, .int .i64 l.t, .sl .no 3 (encO ps)] := by rw [SO_out hqid]; exact hT
                      have hnr : (qs.reverse.map (·.1)).Nodup := by rw [List.map_reverse]; exact List.pairwise_reverse.2 (hq2.imp Ne.symm)
                      simp -implicitDefEqProofs only [go_sem, ↓reduceIte, Nat.reduceEqDiff, Nat.reduceLT, Nat.reduceLeDiff, Nat.reduceAdd, Nat.reduceMul, Nat.reduceSub, reduceCtorEq, Nat.reduceMod, Nat.reduceBEq, Int.reduceBEq, Int.reduceBNe, Int.reduceToNat, b2, h4, hw1, hw2, hz, hT2]
                      have hfl : [ps.take (y.i - l.i - 1).toNat, qs].flatten = ps.take (y.i - l.i - 1).toNat ++ qs := by simp
                      have hql : qs.length ≤ 100000 := by
                        have := congrArg List.length hq1
                        rw [List.length_map, List.length_drop] at this
                        omega
                      refine concatO_spec [ps.take (y.i - l.i - 1).toNat, qs] (by simp) (by simp [lensO]; omega) _ _ ?_
                      rw [hfl]
                      simp -implicitDefEqProofs only [go_sem, ↓reduceIte, Nat.reduceEqDiff, Nat.reduceLT, Nat.reduceLeDiff, Nat.reduceAdd, Nat.reduceMul, Nat.reduceSub, reduceCtorEq, Nat.reduceMod, Nat.reduceBEq, Int.reduceBEq, Int.reduceBNe, Int.reduceToNat, b2, h4, hT2]
                      refine vwp_draw (by decide +kernel) ?_
                      simp -implicitDefEqProofs only [go_sem, ↓reduceIte, Nat.reduceEqDiff, Nat.reduceLT, Nat.reduceLeDiff, Nat.reduceAdd, Nat.reduceMul, Nat.reduceSub, reduceCtorEq, Nat.reduceMod, Nat.reduceBEq, Int.reduceBEq, Int.reduceBNe, Int.reduceToNat, h4, h8, h9]
                      have hqd : ∀ q ∈ qs, q.2.d.length ≤ 140737488351232 := fun q hq => by
                        have : q.2 ∈ more.drop k := by rw [← hq1]; exact List.mem_map.2 ⟨q, hq, rfl⟩
                        have := rise_d more x t a2 _ (List.mem_of_mem_drop this)
                        omega
                      have hqs : ∀ q ∈ qs, ((SO S' qs.reverse).set id (some [.int .i64 l.i, .int .i64 l.t, .sl .no 3 (encO (ps.take (y.i - l.i - 1).toNat ++ qs))])) q.1 = some (cellsD q.2.d) := fun q hq => by
                        simp only [Store.set]
                        rw [if_neg (hqid q (List.mem_reverse.2 hq))]
                        exact SO_in hnr (List.mem_reverse.2 hq)
                      refine q_call _ (by simp -implicitDefEqProofs only [go_sem, ↓reduceIte, Nat.reduceEqDiff, Nat.reduceLT, Nat.reduceLeDiff, Nat.reduceAdd, Nat.reduceMul, Nat.reduceSub, reduceCtorEq, Nat.reduceMod, Nat.reduceBEq, Int.reduceBEq, Int.reduceBNe, Int.reduceToNat]; exact ownA_spec qs hql hqd _ hqs) (by decide) rfl ?_
                      simp -implicitDefEqProofs only [go_sem, ↓reduceIte, Nat.reduceEqDiff, Nat.reduceLT, Nat.reduceLeDiff, Nat.reduceAdd, Nat.reduceMul, Nat.reduceSub, reduceCtorEq, Nat.reduceMod, Nat.reduceBEq, Int.reduceBEq, Int.reduceBNe, Int.reduceToNat, h4, h8, h9]
                      refine hQ _ _ _ ?_
                      simp -implicitDefEqProofs only [go_sem, ↓reduceIte, Nat.reduceEqDiff, Nat.reduceLT, Nat.reduceLeDiff, Nat.reduceAdd, Nat.reduceMul, Nat.reduceSub, reduceCtorEq, Nat.reduceMod, Nat.reduceBEq, Int.reduceBEq, Int.reduceBNe, Int.reduceToNat]
                      refine ⟨_, fun _ _ h => h, ?_⟩
                      have hjf : joinF l x t more = ⟨⟨l.i, l.t, l.rows.take (y.i - l.i - 1).toNat ++ more.drop k⟩, if (atF l y.i).2 then y.i else 0, more.drop k, true⟩ := by
                        unfold joinF; rw [h, hmt]; simp only [if_true]; rw [hj, joinGo, if_neg hs, if_neg b4, ← hdy]
                      refine (fun this => ?_) (hK (ps.take (y.i - l.i - 1).toNat ++ qs) ((SO S' qs.reverse).set id (some [.int .i64 l.i, .int .i64 l.t, .sl .no 3 (encO (ps.take (y.i - l.i - 1).toNat ++ qs))])) (by rw [hjf, List.map_append, hq1, List.map_take, hp1]) ?_ (fun q hq => ?_) (fun i c hi => ?_))
                      · rw [hjf, b2] at this
                        simp only [if_true, Bool.false_eq_true, if_false] at this
                        rw [hq1]
                        exact this
                      · rw [List.map_append, List.nodup_append]
                        refine ⟨List.Nodup.sublist ((List.take_sublist _ _).map _) hp2, hq2, fun a ha b hb => ?_⟩
                        obtain ⟨p, hp, rfl⟩ := List.mem_map.1 ha
                        obtain ⟨q, hq, rfl⟩ := List.mem_map.1 hb
                        intro e
                        have h1 := hq3 q hq
                        rw [← e, hTp p (List.mem_of_mem_take hp)] at h1
                        cases h1
                      · rcases List.mem_append.1 hq with hq | hq
                        · have hqm := List.mem_of_mem_take hq
                          refine ⟨hSp q hqm, ?_⟩
                          simp only [Store.set]
                          rw [if_neg (hpid q hqm), SO_out (fun r hr e => by have h1 := hq3 r (List.mem_reverse.1 hr); rw [e, hTp q hqm] at h1; cases h1)]
                          exact hTp q hqm
                        · refine ⟨?_, ?_⟩
                          · cases hSq : S q.1 with
                            | none => rfl
                            | some c => have h1 := hq3 q hq; rw [hTS _ _ hSq] at h1; cases h1
                          · simp only [Store.set]
                            rw [if_neg (hqid q (List.mem_reverse.2 hq))]
                            exact SO_in hnr (List.mem_reverse.2 hq)
                      · simp only [Store.set]
                        rw [if_neg (fun e => by rw [e, hid] at hi; cases hi), SO_out (fun r hr e => by have h1 := hq3 r (List.mem_reverse.1 hr); rw [e, hTS _ _ hi] at h1; cases h1)]
                        exact hTS i c hi
                  · rcases (Bool.eq_false_or_eq_true ((atF l y.i).1 == y.t)).symm with b3 | b3
                    · have hs : ¬ (y.i ≤ l.i ∨ ((atF l y.i).2 = true ∧ (atF l y.i).1 = y.t)) := by
                        simp only [beq_eq_false_iff_ne, ne_eq] at b3
                        rw [b2]; simp [b3]; omega
                      simp -implicitDefEqProofs only [go_sem, ↓reduceIte, Nat.reduceEqDiff, Nat.reduceLT, Nat.reduceLeDiff, Nat.reduceAdd, Nat.reduceMul, Nat.reduceSub, reduceCtorEq, Nat.reduceMod, Nat.reduceBEq, Int.reduceBEq, Int.reduceBNe, Int.reduceToNat, b2, b3]
                      have hb1 : IntKind.i64.wrap (y.i - 1) = y.i - 1 := wrap64 (by omega) (by omega)
                      simp -implicitDefEqProofs only [go_sem, ↓reduceIte, Nat.reduceEqDiff, Nat.reduceLT, Nat.reduceLeDiff, Nat.reduceAdd, Nat.reduceMul, Nat.reduceSub, reduceCtorEq, Nat.reduceMod, Nat.reduceBEq, Int.reduceBEq, Int.reduceBNe, Int.reduceToNat, h4, hb1, hT]
                      refine atO (y.i - 1) (by omega) (by omega) _ ?_
                      simp -implicitDefEqProofs only [go_sem, ↓reduceIte, Nat.reduceEqDiff, Nat.reduceLT, Nat.reduceLeDiff, Nat.reduceAdd, Nat.reduceMul, Nat.reduceSub, reduceCtorEq, Nat.reduceMod, Nat.reduceBEq, Int.reduceBEq, Int.reduceBNe, Int.reduceToNat]
                      by_cases b4 : y.t < (atF l (y.i - 1)).1
                      · simp -implicitDefEqProofs only [go_sem, ↓reduceIte, Nat.reduceEqDiff, Nat.reduceLT, Nat.reduceLeDiff, Nat.reduceAdd, Nat.reduceMul, Nat.reduceSub, reduceCtorEq, Nat.reduceMod, Nat.reduceBEq, Int.reduceBEq, Int.reduceBNe, Int.reduceToNat, b4, h4, h8, hT]
                        refine hQ _ _ _ ?_
                        simp -implicitDefEqProofs only [go_sem, ↓reduceIte, Nat.reduceEqDiff, Nat.reduceLT, Nat.reduceLeDiff, Nat.reduceAdd, Nat.reduceMul, Nat.reduceSub, reduceCtorEq, Nat.reduceMod, Nat.reduceBEq, Int.reduceBEq, Int.reduceBNe, Int.reduceToNat]
                        have hjf : joinF l x t more = ⟨l, 0, [], false⟩ := by
                          unfold joinF; rw [h, hmt]; simp only [if_true]; rw [hj, joinGo, if_neg hs, if_pos b4]
                        exact ⟨S', fun _ _ h => h, same _ hjf⟩
                      · simp -implicitDefEqProofs only [go_sem, ↓reduceIte, Nat.reduceEqDiff, Nat.reduceLT, Nat.reduceLeDiff, Nat.reduceAdd, Nat.reduceMul, Nat.reduceSub, reduceCtorEq, Nat.reduceMod, Nat.reduceBEq, Int.reduceBEq, Int.reduceBNe, Int.reduceToNat, b4, h3]
                        have htk : List.take (more.length - k) (List.drop k more) = more.drop k := List.take_of_length_le (by simp)
                        rw [htk]
                        refine ⟨by omega, ownO_spec (more.drop k) (by simp; omega) (fun e he => by have := rise_d more x t a2 e (List.mem_of_mem_drop he); omega) _ _ fun qs hq1 hq2 hq3 => ?_⟩
                        have hw1 : IntKind.i64.wrap (y.i - l.i) = y.i - l.i := wrap64 (by omega) (by omega)
                        have hw2 : IntKind.i64.wrap (y.i - l.i - 1) = y.i - l.i - 1 := wrap64 (by omega) (by omega)
                        have hlast := lastF_i _ _ _ hr
                        have hz : (0 : Int) ≤ 0 ∧ 0 ≤ y.i - l.i - 1 ∧ y.i - l.i - 1 ≤ ps.length := by omega
                        have hqid : ∀ q ∈ qs.reverse, q.1 ≠ id := fun q hq e => by
                          have := hq3 q (List.mem_reverse.1 hq)
                          rw [e, hT] at this
                          cases this
                        have hT2 : SO S' qs.reverse id = some [.int .i64 l.i, .int .i64 l.t, .sl .no 3 (encO ps)] := by rw [SO_out hqid]; exact hT
                        have hnr : (qs.reverse.map (·.1)).Nodup := by rw [List.map_reverse]; exact List.pairwise_reverse.2 (hq2.imp Ne.symm)
                        simp -implicitDefEqProofs only [go_sem, ↓reduceIte, Nat.reduceEqDiff, Nat.reduceLT, Nat.reduceLeDiff, Nat.reduceAdd, Nat.reduceMul, Nat.reduceSub, reduceCtorEq, Nat.reduceMod, Nat.reduceBEq, Int.reduceBEq, Int.reduceBNe, Int.reduceToNat, b2, h4, hw1, hw2, hz, hT2]
                        have hfl : [ps.take (y.i - l.i - 1).toNat, qs].flatten = ps.take (y.i - l.i - 1).toNat ++ qs := by simp
                        have hql : qs.length ≤ 100000 := by
                          have := congrArg List.length hq1
                          rw [List.length_map, List.length_drop] at this
                          omega
                        refine concatO_spec [ps.take (y.i - l.i - 1).toNat, qs] (by simp) (by simp [lensO]; omega) _ _ ?_
                        rw [hfl]
                        simp -implicitDefEqProofs only [go_sem, ↓reduceIte, Nat.reduceEqDiff, Nat.reduceLT, Nat.reduceLeDiff, Nat.reduceAdd, Nat.reduceMul, Nat.reduceSub, reduceCtorEq, Nat.reduceMod, Nat.reduceBEq, Int.reduceBEq, Int.reduceBNe, Int.reduceToNat, b2, h4, hT2]
                        refine vwp_draw (by decide +kernel) ?_
                        simp -implicitDefEqProofs only [go_sem, ↓reduceIte, Nat.reduceEqDiff, Nat.reduceLT, Nat.reduceLeDiff, Nat.reduceAdd, Nat.reduceMul, Nat.reduceSub, reduceCtorEq, Nat.reduceMod, Nat.reduceBEq, Int.reduceBEq, Int.reduceBNe, Int.reduceToNat, h4, h8, h9]
                        have hqd : ∀ q ∈ qs, q.2.d.length ≤ 140737488351232 := fun q hq => by
                          have : q.2 ∈ more.drop k := by rw [← hq1]; exact List.mem_map.2 ⟨q, hq, rfl⟩
                          have := rise_d more x t a2 _ (List.mem_of_mem_drop this)
                          omega
                        have hqs : ∀ q ∈ qs, ((SO S' qs.reverse).set id (some [.int .i64 l.i, .int .i64 l.t, .sl .no 3 (encO (ps.take (y.i - l.i - 1).toNat ++ qs))])) q.1 = some (cellsD q.2.d) := fun q hq => by
                          simp only [Store.set]
                          rw [if_neg (hqid q (List.mem_reverse.2 hq))]
                          exact SO_in hnr (List.mem_reverse.2 hq)
                        refine q_call _ (by simp -implicitDefEqProofs only [go_sem, ↓reduceIte, Nat.reduceEqDiff, Nat.reduceLT, Nat.reduceLeDiff, Nat.reduceAdd, Nat.reduceMul, Nat.reduceSub, reduceCtorEq, Nat.reduceMod, Nat.reduceBEq, Int.reduceBEq, Int.reduceBNe, Int.reduceToNat]; exact ownA_spec qs hql hqd _ hqs) (by decide) rfl ?_
                        simp -implicitDefEqProofs only [go_sem, ↓reduceIte, Nat.reduceEqDiff, Nat.reduceLT, Nat.reduceLeDiff, Nat.reduceAdd, Nat.reduceMul, Nat.reduceSub, reduceCtorEq, Nat.reduceMod, Nat.reduceBEq, Int.reduceBEq, Int.reduceBNe, Int.reduceToNat, h4, h8, h9]
                        refine hQ _ _ _ ?_
                        simp -implicitDefEqProofs only [go_sem, ↓reduceIte, Nat.reduceEqDiff, Nat.reduceLT, Nat.reduceLeDiff, Nat.reduceAdd, Nat.reduceMul, Nat.reduceSub, reduceCtorEq, Nat.reduceMod, Nat.reduceBEq, Int.reduceBEq, Int.reduceBNe, Int.reduceToNat]
                        refine ⟨_, fun _ _ h => h, ?_⟩
                        have hjf : joinF l x t more = ⟨⟨l.i, l.t, l.rows.take (y.i - l.i - 1).toNat ++ more.drop k⟩, if (atF l y.i).2 then y.i else 0, more.drop k, true⟩ := by
                          unfold joinF; rw [h, hmt]; simp only [if_true]; rw [hj, joinGo, if_neg hs, if_neg b4, ← hdy]
                        refine (fun this => ?_) (hK (ps.take (y.i - l.i - 1).toNat ++ qs) ((SO S' qs.reverse).set id (some [.int .i64 l.i, .int .i64 l.t, .sl .no 3 (encO (ps.take (y.i - l.i - 1).toNat ++ qs))])) (by rw [hjf, List.map_append, hq1, List.map_take, hp1]) ?_ (fun q hq => ?_) (fun i c hi => ?_))
                        · rw [hjf, b2] at this
                          simp only [if_true, Bool.false_eq_true, if_false] at this
                          rw [hq1]
                          exact this
                        · rw [List.map_append, List.nodup_append]
                          refine ⟨List.Nodup.sublist ((List.take_sublist _ _).map _) hp2, hq2, fun a ha b hb => ?_⟩
                          obtain ⟨p, hp, rfl⟩ := List.mem_map.1 ha
                          obtain ⟨q, hq, rfl⟩ := List.mem_map.1 hb
                          intro e
                          have h1 := hq3 q hq
                          rw [← e, hTp p (List.mem_of_mem_take hp)] at h1
                          cases h1
                        · rcases List.mem_append.1 hq with hq | hq
                          · have hqm := List.mem_of_mem_take hq
                            refine ⟨hSp q hqm, ?_⟩
                            simp only [Store.set]
                            rw [if_neg (hpid q hqm), SO_out (fun r hr e => by have h1 := hq3 r (List.mem_reverse.1 hr); rw [e, hTp q hqm] at h1; cases h1)]
                            exact hTp q hqm
                          · refine ⟨?_, ?_⟩
                            · cases hSq : S q.1 with
                              | none => rfl
                              | some c => have h1 := hq3 q hq; rw [hTS _ _ hSq] at h1; cases h1
                            · simp only [Store.set]
                              rw [if_neg (hqid q (List.mem_reverse.2 hq))]
                              exact SO_in hnr (List.mem_reverse.2 hq)
                        · simp only [Store.set]
                          rw [if_neg (fun e => by rw [e, hid] at hi; cases hi), SO_out (fun r hr e => by have h1 := hq3 r (List.mem_reverse.1 hr); rw [e, hTS _ _ hi] at h1; cases h1)]
                          exact hTS i c hi
                    · have b3' : (atF l y.i).1 = y.t := by simpa using b3
                      simp -implicitDefEqProofs only [go_sem, ↓reduceIte, Nat.reduceEqDiff, Nat.reduceLT, Nat.reduceLeDiff, Nat.reduceAdd, Nat.reduceMul, Nat.reduceSub, reduceCtorEq, Nat.reduceMod, Nat.reduceBEq, Int.reduceBEq, Int.reduceBNe, Int.reduceToNat, b2, b3, h74, hk1]
                      refine next (.inr ⟨b2, b3'⟩) _ ?_ ?_ ?_ ?_ ?_ ?_ ?_ <;> simp -implicitDefEqProofs only [go_sem, ↓reduceIte, Nat.reduceEqDiff, Nat.reduceLT, Nat.reduceLeDiff, Nat.reduceAdd, Nat.reduceMul, Nat.reduceSub, reduceCtorEq, Nat.reduceMod, Nat.reduceBEq, Int.reduceBEq, Int.reduceBNe, Int.reduceToNat, h72, h73, h4, h8, h3, h9]
              · have hc : ¬ (k : Int) < more.length := by omega
                simp -implicitDefEqProofs only [go_sem, ↓reduceIte, Nat.reduceEqDiff, Nat.reduceLT, Nat.reduceLeDiff, Nat.reduceAdd, Nat.reduceMul, Nat.reduceSub, reduceCtorEq, Nat.reduceMod, Nat.reduceBEq, Int.reduceBEq, Int.reduceBNe, Int.reduceToNat, hc]
                refine hQ _ _ _ ?_
                simp -implicitDefEqProofs only [go_sem, ↓reduceIte, Nat.reduceEqDiff, Nat.reduceLT, Nat.reduceLeDiff, Nat.reduceAdd, Nat.reduceMul, Nat.reduceSub, reduceCtorEq, Nat.reduceMod, Nat.reduceBEq, Int.reduceBEq, Int.reduceBNe, Int.reduceToNat, h4, h8, hT]
                rw [List.drop_of_length_le (by omega)] at hj
                have hjf : joinF l x t more = ⟨l, 0, [], true⟩ := by
                  unfold joinF; rw [h, hmt]; simp only [if_true]; rw [hj]; rfl
                exact ⟨S', fun _ _ h => h, same _ hjf⟩
end Go.Proofs.Ytjdfajibflodbaa.V
