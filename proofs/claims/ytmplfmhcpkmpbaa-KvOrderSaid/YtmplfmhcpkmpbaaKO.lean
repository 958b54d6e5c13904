/- Maps: to do is to plan and to take; done again nothing changes. -/
import Derived.Test.YtmplfmhcpkmpbaaKN
set_option linter.unusedVariables false
set_option linter.unusedSimpArgs false
namespace Go.Proofs.Ytmplfmhcpkmpbaa.V
open Go Go.VL

def want (o : KO) : Option ByteArray := if o.has then some o.v else none
theorem cond_want {L : List Pr} {o : KO} (hb : badV o = false) : condQ L o = true ↔ look o.k L = want o := by
  unfold condQ hasQ getQ want
  unfold badV at hb
  cases c : o.has
  · rw [c] at hb
    have hv : o.v = ⟨#[]⟩ := same_iff.1 (by simpa using hb)
    cases d : look o.k L <;> simp [hv, same_refl]
  · cases d : look o.k L with
    | none => simp
    | some w =>
      simp only [Option.isSome_some, Option.getD_some, bt1, Bool.true_and, if_true, Option.some.injEq]
      exact same_iff
theorem look_take_ne : ∀ (E : List KV) (L : List Pr) (x : ByteArray), Sorted L → (∀ e ∈ E, same e.k x = false) → look x (takeF L E) = look x L
  | [], L, x, _, _ => rfl
  | e :: E, L, x, hs, h => by
    show look x (takeF (evDo L e) E) = _
    rw [look_take_ne E _ x (evDo_sorted hs e) fun y hy => h y (List.mem_cons_of_mem _ hy), look_evDo hs (h e List.mem_cons_self)]
theorem plan_mem {L : List Pr} {pos : Int} {ops : List KO} {e : KV} (h : e ∈ planE L pos ops) : ∃ o ∈ ops, e = ⟨pos, o.k, hasQ L o.k, getQ L o.k, o.has, o.v⟩ := by
  unfold planE at h
  obtain ⟨o, ho, he⟩ := List.mem_flatMap.1 h
  refine ⟨o, ho, ?_⟩
  unfold evOf at he
  split at he
  · cases he
  · simpa using he
/-- After the events of a plan each key has what is asked for. -/
theorem take_want (L : List Pr) (pos : Int) : ∀ (ops : List KO) (L' : List Pr), Sorted L' → (∀ o ∈ ops, look o.k L' = look o.k L) → ops.Pairwise (fun a b => same a.k b.k = false) → (∀ o ∈ ops, badV o = false) →
    ∀ o ∈ ops, look o.k (takeF L' (planE L pos ops)) = want o
  | [], L', _, _, _, _ => by simp
  | o :: ops, L', hs, hl, hp, hb => by
    obtain ⟨p1, p2⟩ := List.pairwise_cons.1 hp
    have ho := hl o List.mem_cons_self
    have hbo := hb o List.mem_cons_self
    have hbr : ∀ x ∈ ops, badV x = false := fun x hx => hb x (List.mem_cons_of_mem _ hx)
    have hne : ∀ e ∈ planE L pos ops, same e.k o.k = false := fun e he => by
      obtain ⟨x, hx, rfl⟩ := plan_mem he
      exact same_ne fun h => by have := p1 x hx; rw [show x.k = o.k from h, same_refl] at this; cases this
    unfold planE
    rw [List.flatMap_cons]
    intro x hx
    rw [show List.flatMap (evOf L pos) ops = planE L pos ops from rfl]
    unfold evOf
    cases c : condQ L o
    · simp only [Bool.false_eq_true, if_false]
      show look x.k (takeF (evDo L' _) (planE L pos ops)) = _
      rcases List.mem_cons.1 hx with rfl | hx
      · rw [look_take_ne _ _ _ (evDo_sorted hs _) hne]
        unfold evDo want
        dsimp only
        split
        · exact look_put_self _ _ _
        · exact look_drop_self _ _
      · exact take_want L pos ops _ (evDo_sorted hs _) (fun y hy => by rw [look_evDo hs (p1 y hy)]; exact hl y (List.mem_cons_of_mem _ hy)) p2 hbr x hx
    · rw [if_pos rfl, List.nil_append]
      rcases List.mem_cons.1 hx with rfl | hx
      · rw [look_take_ne _ _ _ hs hne, ho]
        exact (cond_want hbo).1 c
      · exact take_want L pos ops L' hs (fun y hy => hl y (List.mem_cons_of_mem _ hy)) p2 hbr x hx
theorem look_isSome_mem {L : List Pr} {k v : ByteArray} (hs : Sorted L) (h : (k, v) ∈ L) : look k L = some v := by
  induction L with
  | nil => cases h
  | cons p L ih =>
    have hp := List.pairwise_cons.1 hs
    rcases List.mem_cons.1 h with rfl | h
    · rw [look, same_refl]; rfl
    · have h1 := hp.1 _ h
      rw [look, same_lt h1]
      exact ih hp.2 h
theorem drop_len_has : ∀ (L : List Pr) (k : ByteArray), Sorted L → (L.length : Int) = (dropL k L).length + (if hasQ L k then 1 else 0)
  | [], k, _ => rfl
  | p :: L, k, hs => by
    have hp := List.pairwise_cons.1 hs
    have ih := drop_len_has L k hp.2
    unfold dropL hasQ at *
    rw [List.filter_cons, look]
    cases c : same p.1 k
    · simp only [Bool.not_false, if_true, Bool.false_eq_true, if_false, List.length_cons]
      omega
    · have hk := same_iff.1 c
      have hn : look k L = none := look_none fun a ha => by rw [← hk]; exact same_gt (hp.1 a ha)
      rw [hn] at ih
      simp only [Bool.not_true, Bool.false_eq_true, if_false, if_true, List.length_cons, Option.isSome_some, Option.isSome_none] at ih ⊢
      omega
theorem put_len_has {L : List Pr} (hs : Sorted L) (k v : ByteArray) : ((putL k v L).length : Int) = L.length + (if hasQ L k then 0 else 1) := by
  have h1 := drop_len_has L k hs
  rw [drop_two hs, List.length_append] at h1
  unfold putL
  rw [List.length_append, List.length_cons]
  split at h1 <;> rename_i h2
  · rw [if_pos h2]; omega
  · rw [if_neg h2]; omega
theorem take_len (L : List Pr) (pos : Int) : ∀ (ops : List KO) (L' : List Pr), Sorted L' → (∀ o ∈ ops, look o.k L' = look o.k L) → ops.Pairwise (fun a b => same a.k b.k = false) → (∀ o ∈ ops, badV o = false) →
    ((takeF L' (planE L pos ops)).length : Int) = L'.length + (planN L ops - L.length)
  | [], L', _, _, _, _ => by
    show (L'.length : Int) = _
    unfold planN
    omega
  | o :: ops, L', hs, hl, hp, hb => by
    obtain ⟨p1, p2⟩ := List.pairwise_cons.1 hp
    have ho := hl o List.mem_cons_self
    have hbo := hb o List.mem_cons_self
    have hbr : ∀ x ∈ ops, badV x = false := fun x hx => hb x (List.mem_cons_of_mem _ hx)
    have hh : hasQ L' o.k = hasQ L o.k := by unfold hasQ; rw [ho]
    unfold planE
    rw [List.flatMap_cons, show List.flatMap (evOf L pos) ops = planE L pos ops from rfl]
    unfold evOf planN delta
    cases c : condQ L o
    · simp only [Bool.false_eq_true, if_false]
      show ((takeF (evDo L' _) (planE L pos ops)).length : Int) = _
      rw [take_len L pos ops _ (evDo_sorted hs _) (fun y hy => by rw [look_evDo hs (p1 y hy)]; exact hl y (List.mem_cons_of_mem _ hy)) p2 hbr]
      unfold evDo
      dsimp only
      cases d : o.has
      · have e : hasQ L o.k = true := by
          cases e : hasQ L o.k
          · exfalso
            have : condQ L o = true := (cond_want hbo).2 (by
              unfold want
              rw [d]
              unfold hasQ at e
              simpa using e)
            rw [this] at c
            cases c
          · rfl
        have := drop_len_has L' o.k hs
        rw [hh, e] at this
        rw [e]
        simp only [if_true, if_false, Bool.false_eq_true] at this ⊢
        omega
      · have := put_len_has hs o.k o.v
        rw [hh] at this
        simp only [if_true]
        split at this
        · rename_i e
          rw [if_pos e]
          omega
        · rename_i e
          rw [if_neg e]
          omega
    · rw [if_pos rfl, if_pos rfl, List.nil_append, take_len L pos ops L' hs (fun y hy => hl y (List.mem_cons_of_mem _ hy)) p2 hbr]
      omega
theorem right_bad : ∀ (l pre : List KO), rightF pre l = 0 → ∀ o ∈ l, badV o = false ∧ keyQ o.k = true
  | [], pre, _ => by simp
  | o :: l, pre, h => by
    unfold rightF at h
    split at h
    · rename_i h1
      split at h
      · cases h
      · rename_i h2
        split at h
        · cases h
        · intro x hx
          rcases List.mem_cons.1 hx with rfl | hx
          · exact ⟨by simpa using h2, h1⟩
          · exact right_bad l _ h x hx
    · cases h
theorem planF_ok {L : List Pr} {pos : Int} {conds ops : List KO} (h : (planF L pos conds ops).2 = 0) : checkF conds ops = 0 ∧ planN L ops ≤ 24 ∧ (planF L pos conds ops).1 = planE L pos ops := by
  unfold planF at h ⊢
  split
  · rename_i hc
    rw [if_pos hc] at h
    split
    · rename_i ha
      rw [if_pos ha] at h
      split
      · rename_i hp
        rw [if_pos hp] at h
        cases h
      · rename_i hp
        exact ⟨hc, by omega, rfl⟩
    · rename_i ha
      rw [if_neg ha] at h
      cases h
  · rename_i hc
    rw [if_neg hc] at h
    exact absurd h hc
theorem doF_eq {L : List Pr} {pos : Int} {conds ops : List KO} (h : (planF L pos conds ops).2 = 0) : doF L pos conds ops = takeF L (planE L pos ops) := by
  rw [doF_take, (planF_ok h).2.2]
theorem check_nil {conds ops : List KO} (h : checkF conds ops = 0) : checkF [] ops = 0 := by
  obtain ⟨h1, h2, h3, h4⟩ := checkF_len h
  unfold checkF at h ⊢
  split at h
  · cases h
  · rename_i hn
    rw [if_neg (by simp only [List.length_nil]; omega), if_pos (show rightF [] [] = 0 from rfl)]
    exact h4
theorem planN_all {L : List Pr} : ∀ ops : List KO, (∀ o ∈ ops, condQ L o = true) → planN L ops = L.length
  | [], _ => rfl
  | o :: ops, h => by
    unfold planN delta
    rw [planN_all ops fun x hx => h x (List.mem_cons_of_mem _ hx), h o List.mem_cons_self, if_pos rfl]
    omega
theorem planE_all {L : List Pr} {pos : Int} {ops : List KO} (h : ∀ o ∈ ops, condQ L o = true) : planE L pos ops = [] := by
  unfold planE
  rw [List.flatMap_eq_nil_iff]
  intro o ho
  unfold evOf
  rw [h o ho, if_pos rfl]
theorem plan_idem {L : List Pr} (hs : Sorted L) {pos : Int} {conds ops : List KO} (h : (planF L pos conds ops).2 = 0) : planF (doF L pos conds ops) pos [] ops = ([], 0) := by
  obtain ⟨hc, hn, _⟩ := planF_ok h
  obtain ⟨_, _, _, h4⟩ := checkF_len hc
  have hd := (right_dist ops [] h4).1
  have hb : ∀ o ∈ ops, badV o = false := fun o ho => (right_bad ops [] h4 o ho).1
  have hw := take_want L pos ops L hs (fun _ _ => rfl) hd hb
  have hlen := take_len L pos ops L hs (fun _ _ => rfl) hd hb
  rw [doF_eq h]
  have hall : ∀ o ∈ ops, condQ (takeF L (planE L pos ops)) o = true := fun o ho => (cond_want (hb o ho)).2 (hw o ho)
  unfold planF
  rw [if_pos (check_nil hc), if_pos (show [].all (condQ (takeF L (planE L pos ops))) = true from rfl), planN_all ops hall, planE_all hall, if_neg (by omega)]

theorem KTakeM_calls {S : Store} {id : Nat} {t : T} (h : Km S id t) (E : List KV) (hn : t.list.length + E.length ≤ 800000) (K : PV → Store → Prop)
    (hK : ∀ q, Km (S.set id (some [.ip [enc q] 0])) id q → q.list = takeF t.list E → K (.tup []) (S.set id (some [.ip [enc q] 0]))) : PCalls Try.prog 21 [.ref id 0, .sl .no 6 (encVs E)] S K :=
  KTake_calls h E hn K fun q oq hq => hK q (Km.mk S id oq (by rw [hq]; exact (takeF_ok E _ h.2.2).1)) hq

set_option maxHeartbeats 2000000 in
theorem events_law (l : List KD) (k : KD) (hll : l.length ≤ 837723144971) (S : Store) : PRet Try.prog 5 [.sl .no 12 (encDs l), .agg (encD k)] S (.bool true) := by
  intro K hK
  refine pcalls_of (C := C) (fun _ => false) (fun _ => false) Try.func5 rfl rfl (by simp [Try.f5]) ?_
  have hap := small168 (k := 1 + l.length) (by omega)
  unfold encD
  simp -implicitDefEqProofs only [go_sem, ↓reduceIte, Nat.reduceEqDiff, Nat.reduceLT, Nat.reduceLeDiff, Nat.reduceAdd, Nat.reduceMul, Nat.reduceSub, reduceCtorEq, Nat.reduceMod, Nat.reduceBEq, Int.reduceBEq, Int.reduceBNe, Int.reduceToNat, Try.f5, hap, encDs_cons]
  refine short_spec (k :: l) _ _ ?_
  cases hs : shortQ (k :: l)
  · simp -implicitDefEqProofs only [go_sem, ↓reduceIte, Nat.reduceEqDiff, Nat.reduceLT, Nat.reduceLeDiff, Nat.reduceAdd, Nat.reduceMul, Nat.reduceSub, reduceCtorEq, Nat.reduceMod, Nat.reduceBEq, Int.reduceBEq, Int.reduceBNe, Int.reduceToNat]
    refine awake_spec _ _ ?_
    simp -implicitDefEqProofs only [go_sem, ↓reduceIte, Nat.reduceEqDiff, Nat.reduceLT, Nat.reduceLeDiff, Nat.reduceAdd, Nat.reduceMul, Nat.reduceSub, reduceCtorEq, Nat.reduceMod, Nat.reduceBEq, Int.reduceBEq, Int.reduceBNe, Int.reduceToNat]
    exact ⟨S, fun _ _ h => h, hK⟩
  · obtain ⟨hl, _⟩ := short_fit hs
    simp only [List.length_cons] at hl
    simp -implicitDefEqProofs only [go_sem, ↓reduceIte, Nat.reduceEqDiff, Nat.reduceLT, Nat.reduceLeDiff, Nat.reduceAdd, Nat.reduceMul, Nat.reduceSub, reduceCtorEq, Nat.reduceMod, Nat.reduceBEq, Int.reduceBEq, Int.reduceBNe, Int.reduceToNat]
    refine made_calls l (by omega) _ _ fun id t hid km ht => ?_
    obtain ⟨m1, m2, m3, m4, m5⟩ := made_good l
    generalize (madeF l).2 = E at m3 m4 m5 ⊢
    generalize (madeF l).1 = L at m1 m2 m5 ht
    simp -implicitDefEqProofs only [go_sem, ↓reduceIte, Nat.reduceEqDiff, Nat.reduceLT, Nat.reduceLeDiff, Nat.reduceAdd, Nat.reduceMul, Nat.reduceSub, reduceCtorEq, Nat.reduceMod, Nat.reduceBEq, Int.reduceBEq, Int.reduceBNe, Int.reduceToNat]
    refine KClone_calls km _ fun id2 hid2 => ?_
    obtain ⟨hne, hid2⟩ := set_none hid2
    have kn : Km ((S.set id (some [.ip [enc t] 0])).set id2 (some [.ip [enc t] 0])) id2 t := Km.mk _ id2 km.2.1 km.2.2
    have km2 := km.other (c := some [.ip [enc t] 0]) (Ne.symm hne)
    simp -implicitDefEqProofs only [go_sem, ↓reduceIte, Nat.reduceEqDiff, Nat.reduceLT, Nat.reduceLeDiff, Nat.reduceAdd, Nat.reduceMul, Nat.reduceSub, reduceCtorEq, Nat.reduceMod, Nat.reduceBEq, Int.reduceBEq, Int.reduceBNe, Int.reduceToNat]
    refine KDo_calls km2 (by rw [ht]; omega) k.pos k.conds k.ops _ fun q kq lq => ?_
    have kn2 := kn.other (c := some [.ip [enc q] 0]) hne
    rw [ht] at lq ⊢
    have hq6 := (doF_ok m1 k.pos k.conds k.ops).2
    have hq5 := planF_len L k.pos k.conds k.ops
    have hqt := doF_take L k.pos k.conds k.ops
    rw [← lq] at hq6
    unfold encPl
    simp -implicitDefEqProofs only [go_sem, ↓reduceIte, Nat.reduceEqDiff, Nat.reduceLT, Nat.reduceLeDiff, Nat.reduceAdd, Nat.reduceMul, Nat.reduceSub, reduceCtorEq, Nat.reduceMod, Nat.reduceBEq, Int.reduceBEq, Int.reduceBNe, Int.reduceToNat]
    refine KPlan_spec kn2 (by rw [ht]; omega) k.pos k.conds k.ops _ ?_
    rw [ht]
    unfold encPl
    simp -implicitDefEqProofs only [go_sem, ↓reduceIte, Nat.reduceEqDiff, Nat.reduceLT, Nat.reduceLeDiff, Nat.reduceAdd, Nat.reduceMul, Nat.reduceSub, reduceCtorEq, Nat.reduceMod, Nat.reduceBEq, Int.reduceBEq, Int.reduceBNe, Int.reduceToNat]
    refine KTakeM_calls kn2 (planF L k.pos k.conds k.ops).1 (by rw [ht]; omega) _ fun u ku lu => ?_
    have kq2 := kq.other (c := some [.ip [enc u] 0]) (Ne.symm hne)
    rw [ht, ← hqt, ← lq] at lu
    have sq := scanA_len q.list
    have bb : ∀ x : Int, (x != x) = false := by simp
    simp -implicitDefEqProofs only [go_sem, ↓reduceIte, Nat.reduceEqDiff, Nat.reduceLT, Nat.reduceLeDiff, Nat.reduceAdd, Nat.reduceMul, Nat.reduceSub, reduceCtorEq, Nat.reduceMod, Nat.reduceBEq, Int.reduceBEq, Int.reduceBNe, Int.reduceToNat, bb]
    refine EqualV_refl _ (by omega) _ _ ?_
    simp -implicitDefEqProofs only [go_sem, ↓reduceIte, Nat.reduceEqDiff, Nat.reduceLT, Nat.reduceLeDiff, Nat.reduceAdd, Nat.reduceMul, Nat.reduceSub, reduceCtorEq, Nat.reduceMod, Nat.reduceBEq, Int.reduceBEq, Int.reduceBNe, Int.reduceToNat]
    refine KAll_spec kq2 (by omega) _ ?_
    simp -implicitDefEqProofs only [go_sem, ↓reduceIte, Nat.reduceEqDiff, Nat.reduceLT, Nat.reduceLeDiff, Nat.reduceAdd, Nat.reduceMul, Nat.reduceSub, reduceCtorEq, Nat.reduceMod, Nat.reduceBEq, Int.reduceBEq, Int.reduceBNe, Int.reduceToNat]
    refine KAll_spec ku (by rw [lu]; omega) _ ?_
    rw [lu]
    simp -implicitDefEqProofs only [go_sem, ↓reduceIte, Nat.reduceEqDiff, Nat.reduceLT, Nat.reduceLeDiff, Nat.reduceAdd, Nat.reduceMul, Nat.reduceSub, reduceCtorEq, Nat.reduceMod, Nat.reduceBEq, Int.reduceBEq, Int.reduceBNe, Int.reduceToNat]
    refine EqualO_refl _ (by omega) _ _ ?_
    by_cases he : (planF L k.pos k.conds k.ops).2 = 0
    · rw [he]
      simp -implicitDefEqProofs only [go_sem, ↓reduceIte, Nat.reduceEqDiff, Nat.reduceLT, Nat.reduceLeDiff, Nat.reduceAdd, Nat.reduceMul, Nat.reduceSub, reduceCtorEq, Nat.reduceMod, Nat.reduceBEq, Int.reduceBEq, Int.reduceBNe, Int.reduceToNat, i00]
      refine PCalls.unflag ?_
      refine KDo_calls kq2 (by omega) k.pos [] k.ops _ fun v kv lv => ?_
      rw [lq, plan_idem m1 he]
      unfold encPl
      simp -implicitDefEqProofs only [go_sem, ↓reduceIte, Nat.reduceEqDiff, Nat.reduceLT, Nat.reduceLeDiff, Nat.reduceAdd, Nat.reduceMul, Nat.reduceSub, reduceCtorEq, Nat.reduceMod, Nat.reduceBEq, Int.reduceBEq, Int.reduceBNe, Int.reduceToNat, e00, encVs, List.map_nil, List.length_nil]
      refine awake_spec _ _ ?_
      simp -implicitDefEqProofs only [go_sem, ↓reduceIte, Nat.reduceEqDiff, Nat.reduceLT, Nat.reduceLeDiff, Nat.reduceAdd, Nat.reduceMul, Nat.reduceSub, reduceCtorEq, Nat.reduceMod, Nat.reduceBEq, Int.reduceBEq, Int.reduceBNe, Int.reduceToNat]
      exact ⟨S, set_drop hid (set_drop hid2 (set_drop hid (set_drop hid2 (set_drop hid fun _ _ h => h)))), hK⟩
    · have d0 : ((planF L k.pos k.conds k.ops).2 != 0) = true := by simp [he]
      simp -implicitDefEqProofs only [go_sem, ↓reduceIte, Nat.reduceEqDiff, Nat.reduceLT, Nat.reduceLeDiff, Nat.reduceAdd, Nat.reduceMul, Nat.reduceSub, reduceCtorEq, Nat.reduceMod, Nat.reduceBEq, Int.reduceBEq, Int.reduceBNe, Int.reduceToNat, d0]
      refine awake_spec _ _ ?_
      simp -implicitDefEqProofs only [go_sem, ↓reduceIte, Nat.reduceEqDiff, Nat.reduceLT, Nat.reduceLeDiff, Nat.reduceAdd, Nat.reduceMul, Nat.reduceSub, reduceCtorEq, Nat.reduceMod, Nat.reduceBEq, Int.reduceBEq, Int.reduceBNe, Int.reduceToNat]
      exact ⟨S, set_drop hid2 (set_drop hid (set_drop hid2 (set_drop hid fun _ _ h => h))), hK⟩
end Go.Proofs.Ytmplfmhcpkmpbaa.V
