/- Maps: the law of order. -/
import Derived.Test.YtmplfmhcpkmpbaaKZ
import Derived.Test.YtmplfmhcpkmpbaaKV
set_option linter.unusedVariables false
set_option linter.unusedSimpArgs false
namespace Go.Proofs.Ytmplfmhcpkmpbaa.V
open Go Go.VL

theorem cellsO_get : ∀ (l : List KO) (k : Nat) (p : KO), l[k]? = some p → (cellsO l)[k * 3]? = some (.str p.k) ∧ (cellsO l)[k * 3 + 1]? = some (.bool p.has) ∧ (cellsO l)[k * 3 + 2]? = some (.str p.v)
  | [], k, p, h => by simp at h
  | q :: l, 0, p, h => by
    simp at h
    subst h
    rw [cellsO_cons]
    exact ⟨rfl, rfl, rfl⟩
  | q :: l, k + 1, p, h => by
    obtain ⟨h1, h2, h3⟩ := cellsO_get l k p (by simpa using h)
    rw [cellsO_cons, show (k + 1) * 3 = k * 3 + 3 by omega]
    exact ⟨by simpa using h1, by simpa using h2, by simpa using h3⟩
theorem fz_cellsO {Sf : Store} {id : Nat} {f : Fl} (l : List KO) (h : Sf id = some (cellsO l)) : Fz Sf (.arr f id 0 l.length 3) (.sl .no 3 (encOs l)) := by
  have row : ∀ (j : Nat) (c : List PV), (encOs l)[j]? = some c → ∃ e, l[j]? = some e ∧ c = encO e := by
    intro j c hj
    simp only [encOs, List.getElem?_map, Option.map_eq_some_iff] at hj
    obtain ⟨e, he, rfl⟩ := hj
    exact ⟨e, he, rfl⟩
  refine .arr h (len_encOs l) (fun j c hj => ?_) (fun j k => ((encOs l).getD j []).getD k .undef) (fun j c k v hj hk => ?_) (fun j c k v hj hk => ?_)
  · obtain ⟨e, _, rfl⟩ := row j c hj; rfl
  · obtain ⟨e, he, rfl⟩ := row j c hj
    obtain ⟨h1, h2, h3⟩ := cellsO_get l j e he
    rw [getD_encOs he]
    have hk' : [PV.str e.k, PV.bool e.has, PV.str e.v].getD k .undef = v := by
      have : encO e = [PV.str e.k, PV.bool e.has, PV.str e.v] := rfl
      rw [this] at hk
      rw [List.getD_eq_getElem?_getD, hk, Option.getD_some]
    rw [hk']
    rcases k with _ | _ | _ | k
    · simp [encO] at hk; subst hk; simpa using h1
    · simp [encO] at hk; subst hk; simpa using h2
    · simp [encO] at hk; subst hk; simpa using h3
    · simp [encO] at hk
  · obtain ⟨e, he, rfl⟩ := row j c hj
    have : ((encOs l).getD j []).getD k .undef = v := by
      rw [getD_encOs he]
      have h3 : encO e = [PV.str e.k, PV.bool e.has, PV.str e.v] := rfl
      rw [h3] at hk
      rw [List.getD_eq_getElem?_getD, hk, Option.getD_some]
    rw [this]
    exact .refl v
def encI (l : List Int) : List (List PV) := l.map fun x => [.int .i64 x]
@[go_sem] theorem len_encI (l : List Int) : (encI l).length = l.length := by simp [encI]
theorem getD_encI {l : List Int} {k : Nat} {x : Int} (h : l[k]? = some x) : (encI l).getD k [] = [.int .i64 x] := by
  simp [encI, List.getD_eq_getElem?_getD, h]
theorem u64_small {n : Nat} (h : n ≤ 1000000) : IntKind.u64.wrap (n : Int) = (n : Int) := by
  rw [IntKind.wrap_u64]
  omega
theorem turn_lt (t : Int) {n : Nat} (h0 : 0 < n) (h : n ≤ 1000000) : ∃ q : Nat, q < n ∧ IntKind.i64.wrap ((IntKind.u64.wrap t).tmod (n : Int)) = (q : Int) := by
  have h1 : 0 ≤ IntKind.u64.wrap t := by rw [IntKind.wrap_u64]; omega
  have h2 := Int.tmod_nonneg (n : Int) h1
  have h3 := Int.tmod_lt_of_pos (IntKind.u64.wrap t) (show (0 : Int) < n by omega)
  refine ⟨((IntKind.u64.wrap t).tmod n).toNat, by omega, ?_⟩
  rw [wrap64 (by omega) (by omega)]
  omega
theorem pos_lt (k : Nat) {n : Nat} (h0 : 0 < n) : ∃ p : Nat, p < n ∧ (k : Int).tmod (n : Int) = (p : Int) := by
  have h2 := Int.tmod_nonneg (n : Int) (show (0 : Int) ≤ k by omega)
  have h3 := Int.tmod_lt_of_pos (k : Int) (show (0 : Int) < n by omega)
  exact ⟨((k : Int).tmod n).toNat, by omega, by omega⟩

theorem _root_.Go.VL.PCalls.giveArr {P : Program} {f : FuncId} {args args' : List PV} {S : Store} {id : Nat} {c : List PV} {K : PV → Store → Prop} (hS : S id = some c) (hl : args.length = args'.length)
    (hz : ∀ (k : Nat) p q, args[k]? = some p → args'[k]? = some q → Fz (fun i => if i = id then some c else none) p q ∧ q.bare = q) (h : ∀ G : Store, (∀ i, i ≠ id → G i = S i) → PCalls P f args' G K) : PCalls P f args S K := by
  refine PCalls.give (Sf := fun i => if i = id then some c else none) (fun i x hi => ?_) hl hz (h _ fun i hi => by simp [hi])
  split at hi
  · rename_i e; rw [e, hS]; exact hi
  · cases hi
theorem puts_len {L : List Pr} (hs : Sorted L) {ops : List KO} (hf : Fine ops) (n : Nat) : (opsL L (dels ops ++ puts (ops.take n))).length ≤ (opsL L ops).length := by
  have h1 : puts ops = puts (ops.take n) ++ puts (ops.drop n) := by
    unfold puts
    rw [← List.filter_append, List.take_append_drop]
  have h2 := opsL_perm hs (split_perm ops) (fine_perm (split_perm ops).symm hf)
  rw [h1, ← List.append_assoc, opsL_app] at h2
  rw [← h2]
  exact puts_grow (opsL_ok _ L hs).1 (fine_sub (List.filter_sublist.trans (List.drop_sublist n ops)) hf) fun x hx => by simpa [puts] using (List.mem_filter.1 hx).2
theorem gen_env {C : Ctx} {X : Fx} {c : Code} {e : Env} {S : Store} {Q : Post} (M : Env → Prop) (h : M e) (hw : ∀ e, M e → vwp C X c Q e S) : vwp C X c Q e S := hw e h
def ordB (ops : Array Oper) : Bool := ops.toList.zipIdx.all fun (o, j) => (edgesOf o).all fun k => decide (k < j)
theorem ordB_ok {ops : Array Oper} (h : ordB ops = true) : ∀ (j : Nat) (o : Oper), ops[j]? = some o → ∀ k ∈ edgesOf o, k < j := by
  intro j o ho k hk
  unfold ordB at h
  have hm : (o, j) ∈ ops.toList.zipIdx := by
    rw [List.mem_zipIdx_iff_getElem?]
    simpa using ho
  have := List.all_eq_true.1 (List.all_eq_true.1 h (o, j) hm) k hk
  simpa using this

set_option maxHeartbeats 8000000 in
theorem order_law (l : List KD) (ops : List KO) (turns : List Int) (S : Store) : PRet Try.prog 7 [.sl .no 12 (encDs l), .sl .no 3 (encOs ops), .sl .no 1 (encI turns)] S (.bool true) := by
  intro K hK
  refine pcalls_of (C := C) (fun _ => false) (fun _ => false) Try.func7 rfl rfl (by simp [Try.f7]) ?_
  simp -implicitDefEqProofs only [go_sem, ↓reduceIte, Nat.reduceEqDiff, Nat.reduceLT, Nat.reduceLeDiff, Nat.reduceAdd, Nat.reduceMul, Nat.reduceSub, reduceCtorEq, Nat.reduceMod, Nat.reduceBEq, Int.reduceBEq, Int.reduceBNe, Int.reduceToNat, Try.f7]
  refine short_spec l _ _ ?_
  cases hs : shortQ l
  · simp -implicitDefEqProofs only [go_sem, ↓reduceIte, Nat.reduceEqDiff, Nat.reduceLT, Nat.reduceLeDiff, Nat.reduceAdd, Nat.reduceMul, Nat.reduceSub, reduceCtorEq, Nat.reduceMod, Nat.reduceBEq, Int.reduceBEq, Int.reduceBNe, Int.reduceToNat]
    refine awake_spec _ _ ?_
    simp -implicitDefEqProofs only [go_sem, ↓reduceIte, Nat.reduceEqDiff, Nat.reduceLT, Nat.reduceLeDiff, Nat.reduceAdd, Nat.reduceMul, Nat.reduceSub, reduceCtorEq, Nat.reduceMod, Nat.reduceBEq, Int.reduceBEq, Int.reduceBNe, Int.reduceToNat]
    exact ⟨S, fun _ _ h => h, hK⟩
  obtain ⟨hl, _⟩ := short_fit hs
  simp -implicitDefEqProofs only [go_sem, ↓reduceIte, Nat.reduceEqDiff, Nat.reduceLT, Nat.reduceLeDiff, Nat.reduceAdd, Nat.reduceMul, Nat.reduceSub, reduceCtorEq, Nat.reduceMod, Nat.reduceBEq, Int.reduceBEq, Int.reduceBNe, Int.reduceToNat]
  refine weigh_spec ops _ _ ?_
  by_cases w1 : (32768 : Int) < ((weighF 0 ops : Nat) : Int)
  · simp -implicitDefEqProofs only [go_sem, ↓reduceIte, Nat.reduceEqDiff, Nat.reduceLT, Nat.reduceLeDiff, Nat.reduceAdd, Nat.reduceMul, Nat.reduceSub, reduceCtorEq, Nat.reduceMod, Nat.reduceBEq, Int.reduceBEq, Int.reduceBNe, Int.reduceToNat, w1]
    refine awake_spec _ _ ?_
    simp -implicitDefEqProofs only [go_sem, ↓reduceIte, Nat.reduceEqDiff, Nat.reduceLT, Nat.reduceLeDiff, Nat.reduceAdd, Nat.reduceMul, Nat.reduceSub, reduceCtorEq, Nat.reduceMod, Nat.reduceBEq, Int.reduceBEq, Int.reduceBNe, Int.reduceToNat]
    exact ⟨S, fun _ _ h => h, hK⟩
  by_cases w2 : (100 : Int) < (turns.length : Int)
  · simp -implicitDefEqProofs only [go_sem, ↓reduceIte, Nat.reduceEqDiff, Nat.reduceLT, Nat.reduceLeDiff, Nat.reduceAdd, Nat.reduceMul, Nat.reduceSub, reduceCtorEq, Nat.reduceMod, Nat.reduceBEq, Int.reduceBEq, Int.reduceBNe, Int.reduceToNat, w1, w2]
    refine awake_spec _ _ ?_
    simp -implicitDefEqProofs only [go_sem, ↓reduceIte, Nat.reduceEqDiff, Nat.reduceLT, Nat.reduceLeDiff, Nat.reduceAdd, Nat.reduceMul, Nat.reduceSub, reduceCtorEq, Nat.reduceMod, Nat.reduceBEq, Int.reduceBEq, Int.reduceBNe, Int.reduceToNat]
    exact ⟨S, fun _ _ h => h, hK⟩
  obtain ⟨lo, _⟩ := weigh_fit (l := ops) (by omega)
  simp -implicitDefEqProofs only [go_sem, ↓reduceIte, Nat.reduceEqDiff, Nat.reduceLT, Nat.reduceLeDiff, Nat.reduceAdd, Nat.reduceMul, Nat.reduceSub, reduceCtorEq, Nat.reduceMod, Nat.reduceBEq, Int.reduceBEq, Int.reduceBNe, Int.reduceToNat, w1, w2]
  refine made_calls l (by omega) _ _ fun id t hid km ht => ?_
  obtain ⟨m1, m2, m3, m4, m5⟩ := made_good l
  have m6 := made_24 l
  generalize (madeF l).2 = E at m3 m4 m5 ⊢
  generalize (madeF l).1 = L at m1 m2 m5 m6 ht
  have sub1 : Sub S (S.set id (some [.ip [enc t] 0])) := set_drop hid fun _ _ h => h
  simp -implicitDefEqProofs only [go_sem, ↓reduceIte, Nat.reduceEqDiff, Nat.reduceLT, Nat.reduceLeDiff, Nat.reduceAdd, Nat.reduceMul, Nat.reduceSub, reduceCtorEq, Nat.reduceMod, Nat.reduceBEq, Int.reduceBEq, Int.reduceBNe, Int.reduceToNat]
  generalize S.set id (some [.ip [enc t] 0]) = B1 at km sub1 ⊢
  refine KClone_calls km _ fun ida hida => ?_
  have ka := Km.mk B1 ida km.2.1 km.2.2
  have na := km.ne hida
  have km1 := km.other (c := some [.ip [enc t] 0]) na
  have hida' := sub1.non hida
  have sub2 := sub1.set hida' (some [.ip [enc t] 0])
  simp -implicitDefEqProofs only [go_sem, ↓reduceIte, Nat.reduceEqDiff, Nat.reduceLT, Nat.reduceLeDiff, Nat.reduceAdd, Nat.reduceMul, Nat.reduceSub, reduceCtorEq, Nat.reduceMod, Nat.reduceBEq, Int.reduceBEq, Int.reduceBNe, Int.reduceToNat]
  generalize B1.set ida (some [.ip [enc t] 0]) = B2 at ka km1 sub2 ⊢
  refine KClone_calls km1 _ fun idb hidb => ?_
  have kb := Km.mk B2 idb km.2.1 km.2.2
  have nb := km1.ne hidb
  have nab := ka.ne hidb
  have km2 := km1.other (c := some [.ip [enc t] 0]) nb
  have ka2 := ka.other (c := some [.ip [enc t] 0]) nab
  have hidb' := sub2.non hidb
  have sub3 := sub2.set hidb' (some [.ip [enc t] 0])
  simp -implicitDefEqProofs only [go_sem, ↓reduceIte, Nat.reduceEqDiff, Nat.reduceLT, Nat.reduceLeDiff, Nat.reduceAdd, Nat.reduceMul, Nat.reduceSub, reduceCtorEq, Nat.reduceMod, Nat.reduceBEq, Int.reduceBEq, Int.reduceBNe, Int.reduceToNat]
  generalize B2.set idb (some [.ip [enc t] 0]) = B3 at kb km2 ka2 sub3 ⊢
  refine cloneArr_calls ops (by omega) _ _ fun idm hidm => ?_
  have n1 := km2.ne hidm
  have n2 := ka2.ne hidm
  have n3 := kb.ne hidm
  have hidm' := sub3.non hidm
  simp -implicitDefEqProofs only [go_sem, ↓reduceIte, Nat.reduceEqDiff, Nat.reduceLT, Nat.reduceLeDiff, Nat.reduceAdd, Nat.reduceMul, Nat.reduceSub, reduceCtorEq, Nat.reduceMod, Nat.reduceBEq, Int.reduceBEq, Int.reduceBNe, Int.reduceToNat]
  refine vloop (fun e S' => ∃ (k : Nat) (mx : List KO), mx.Perm ops ∧ Sub S S' ∧ Km S' id t ∧ Km S' ida t ∧ Km S' idb t ∧ S' idm = some (cellsO mx) ∧ k ≤ turns.length ∧ e 1 = .sl .no 3 (encOs ops) ∧ e 7 = .ref id 0 ∧ e 9 = .ref ida 0 ∧ e 10 = .ref idb 0 ∧ e 11 = .arr .no idm 0 ops.length 3 ∧ e 49 = .sl .no 1 (encI turns) ∧ e 50 = .int .i64 turns.length ∧ e 51 = .int .i64 k) (fun e _ => turns.length - iv (e 51)) ?_ ?_
  · exact ⟨0, ops, .refl _, sub3.set hidm' _, km2.other n1, ka2.other n2, kb.other n3, set_at _ _ _, Nat.zero_le _, rfl, rfl, rfl, rfl, rfl, rfl, rfl, rfl⟩
  · rintro J M Q' hJ hM hQ e S' ⟨k, mx, pm, sb, hm, ha, hb, hx, hk, e1, e7, e9, e10, e11, e49, e50, e51⟩
    by_cases hlt : k < turns.length
    · obtain ⟨tu, htu⟩ : ∃ x, turns[k]? = some x := ⟨_, List.getElem?_eq_getElem hlt⟩
      have hin : (0 : Int) ≤ k ∧ (k : Int) < turns.length := by omega
      have hk1 : IntKind.i64.wrap ((k : Int) + 1) = ((k + 1 : Nat) : Int) := wrap64 (by omega) (by omega)
      by_cases h0 : 0 < ops.length
      · have d0 : (0 : Int) < (ops.length : Int) := by omega
        have nz : (ops.length : Int) ≠ 0 := by omega
        have hus := u64_small (n := ops.length) (by omega)
        obtain ⟨q, hq, eq⟩ := turn_lt tu h0 (by omega)
        obtain ⟨p, hp, ep⟩ := pos_lt k h0
        have hml := pm.length_eq
        simp -implicitDefEqProofs only [go_sem, ↓reduceIte, Nat.reduceEqDiff, Nat.reduceLT, Nat.reduceLeDiff, Nat.reduceAdd, Nat.reduceMul, Nat.reduceSub, reduceCtorEq, Nat.reduceMod, Nat.reduceBEq, Int.reduceBEq, Int.reduceBNe, Int.reduceToNat, hin, hlt, e11, e49, e50, e51, getD_encI htu, d0]
        refine vwp_draw (by decide +kernel) ?_
        simp -implicitDefEqProofs only [go_sem, ↓reduceIte, Nat.reduceEqDiff, Nat.reduceLT, Nat.reduceLeDiff, Nat.reduceAdd, Nat.reduceMul, Nat.reduceSub, reduceCtorEq, Nat.reduceMod, Nat.reduceBEq, Int.reduceBEq, Int.reduceBNe, Int.reduceToNat, e11, nz, hus, eq, ep]
        obtain ⟨b, hb2⟩ : ∃ b, mx[q]? = some b := ⟨_, List.getElem?_eq_getElem (by omega)⟩
        obtain ⟨a, ha2⟩ : ∃ a, mx[p]? = some a := ⟨_, List.getElem?_eq_getElem (by omega)⟩
        refine gen_env (fun e2 => e2 1 = .sl .no 3 (encOs ops) ∧ e2 7 = .ref id 0 ∧ e2 9 = .ref ida 0 ∧ e2 10 = .ref idb 0 ∧ e2 11 = .arr .no idm 0 ops.length 3 ∧ e2 14 = .int .i64 p ∧ e2 15 = .int .i64 q ∧ e2 49 = .sl .no 1 (encI turns) ∧ e2 50 = .int .i64 turns.length ∧ e2 51 = .int .i64 k) ⟨by simp -implicitDefEqProofs only [go_sem, ↓reduceIte, Nat.reduceEqDiff, Nat.reduceLT, Nat.reduceLeDiff, Nat.reduceAdd, Nat.reduceMul, Nat.reduceSub, reduceCtorEq, Nat.reduceMod, Nat.reduceBEq, Int.reduceBEq, Int.reduceBNe, Int.reduceToNat, e1], by simp -implicitDefEqProofs only [go_sem, ↓reduceIte, Nat.reduceEqDiff, Nat.reduceLT, Nat.reduceLeDiff, Nat.reduceAdd, Nat.reduceMul, Nat.reduceSub, reduceCtorEq, Nat.reduceMod, Nat.reduceBEq, Int.reduceBEq, Int.reduceBNe, Int.reduceToNat, e7], by simp -implicitDefEqProofs only [go_sem, ↓reduceIte, Nat.reduceEqDiff, Nat.reduceLT, Nat.reduceLeDiff, Nat.reduceAdd, Nat.reduceMul, Nat.reduceSub, reduceCtorEq, Nat.reduceMod, Nat.reduceBEq, Int.reduceBEq, Int.reduceBNe, Int.reduceToNat, e9], by simp -implicitDefEqProofs only [go_sem, ↓reduceIte, Nat.reduceEqDiff, Nat.reduceLT, Nat.reduceLeDiff, Nat.reduceAdd, Nat.reduceMul, Nat.reduceSub, reduceCtorEq, Nat.reduceMod, Nat.reduceBEq, Int.reduceBEq, Int.reduceBNe, Int.reduceToNat, e10], by simp -implicitDefEqProofs only [go_sem, ↓reduceIte, Nat.reduceEqDiff, Nat.reduceLT, Nat.reduceLeDiff, Nat.reduceAdd, Nat.reduceMul, Nat.reduceSub, reduceCtorEq, Nat.reduceMod, Nat.reduceBEq, Int.reduceBEq, Int.reduceBNe, Int.reduceToNat, e11], by simp -implicitDefEqProofs only [go_sem, ↓reduceIte, Nat.reduceEqDiff, Nat.reduceLT, Nat.reduceLeDiff, Nat.reduceAdd, Nat.reduceMul, Nat.reduceSub, reduceCtorEq, Nat.reduceMod, Nat.reduceBEq, Int.reduceBEq, Int.reduceBNe, Int.reduceToNat], by simp -implicitDefEqProofs only [go_sem, ↓reduceIte, Nat.reduceEqDiff, Nat.reduceLT, Nat.reduceLeDiff, Nat.reduceAdd, Nat.reduceMul, Nat.reduceSub, reduceCtorEq, Nat.reduceMod, Nat.reduceBEq, Int.reduceBEq, Int.reduceBNe, Int.reduceToNat], by simp -implicitDefEqProofs only [go_sem, ↓reduceIte, Nat.reduceEqDiff, Nat.reduceLT, Nat.reduceLeDiff, Nat.reduceAdd, Nat.reduceMul, Nat.reduceSub, reduceCtorEq, Nat.reduceMod, Nat.reduceBEq, Int.reduceBEq, Int.reduceBNe, Int.reduceToNat, e49], by simp -implicitDefEqProofs only [go_sem, ↓reduceIte, Nat.reduceEqDiff, Nat.reduceLT, Nat.reduceLeDiff, Nat.reduceAdd, Nat.reduceMul, Nat.reduceSub, reduceCtorEq, Nat.reduceMod, Nat.reduceBEq, Int.reduceBEq, Int.reduceBNe, Int.reduceToNat, e50], by simp -implicitDefEqProofs only [go_sem, ↓reduceIte, Nat.reduceEqDiff, Nat.reduceLT, Nat.reduceLeDiff, Nat.reduceAdd, Nat.reduceMul, Nat.reduceSub, reduceCtorEq, Nat.reduceMod, Nat.reduceBEq, Int.reduceBEq, Int.reduceBNe, Int.reduceToNat, e51]⟩ ?_
        rintro E0 ⟨f1, f7, f9, f10, f11, f14, f15, f49, f50, f51⟩
        obtain ⟨ds, hds⟩ : ∃ ds : List (Nat × Nat × PV), ds = [(70, 0, .arr .no idm 0 ops.length 3), (71, 1, .int .i64 p), (72, 2, .arr .no idm 0 ops.length 3), (73, 3, .int .i64 q), (74, 4, .arr .no idm 0 ops.length 3), (75, 5, .int .i64 q), (76, 6, .ref idm (q * 3)), (77, 7, .agg [.str b.k, .bool b.has, .str b.v]), (78, 8, .arr .no idm 0 ops.length 3), (79, 9, .int .i64 p), (80, 10, .ref idm (p * 3)), (81, 11, .agg [.str a.k, .bool a.has, .str a.v]), (82, 12, .ref idm (p * 3)), (83, 14, .ref idm (q * 3))] := ⟨_, rfl⟩
        have c1 := cellsO_set mx p b (by omega)
        have c2 := cellsO_set (mx.set p b) q a (by rw [List.length_set]; omega)
        have hinq : (0 : Int) ≤ q ∧ (q : Int) < ops.length := by omega
        have hinp : (0 : Int) ≤ p ∧ (p : Int) < ops.length := by omega
        have fitq : q * 3 + 3 ≤ (cellsO mx).length := by rw [cellsO_len]; omega
        have fitp : p * 3 + 3 ≤ (cellsO mx).length := by rw [cellsO_len]; omega
        have fitq2 : q * 3 + 3 ≤ (cellsO (mx.set p b)).length := by rw [cellsO_len, List.length_set]; omega
        refine vwp_any (fun L e2 S2 => e2 = envD ds L E0 ∧ S2 = if L 15 = true then S'.set idm (some (cellsO ((mx.set p b).set q a))) else if L 13 = true then S'.set idm (some (cellsO (mx.set p b))) else S') (ordB_ok (by decide +kernel)) ⟨(envD_start _ _).symm, rfl⟩ ?_ ?_
        · intro i o ho L e2 S2 hcl hLi hdep hI K' hK'
          obtain ⟨rfl, hS2⟩ := hI
          have g11 : envD ds L E0 11 = .arr .no idm 0 ops.length 3 := (envD_old (by rw [hds]; rfl)).trans f11
          have g14 : envD ds L E0 14 = .int .i64 p := (envD_old (by rw [hds]; rfl)).trans f14
          have g15 : envD ds L E0 15 = .int .i64 q := (envD_old (by rw [hds]; rfl)).trans f15
          have hi : i < 16 := (Array.getElem?_eq_some_iff.1 ho).1
          have hi2 : i = 0 ∨ i = 1 ∨ i = 2 ∨ i = 3 ∨ i = 4 ∨ i = 5 ∨ i = 6 ∨ i = 7 ∨ i = 8 ∨ i = 9 ∨ i = 10 ∨ i = 11 ∨ i = 12 ∨ i = 13 ∨ i = 14 ∨ i = 15 := by omega
          rcases hi2 with rfl | rfl | rfl | rfl | rfl | rfl | rfl | rfl | rfl | rfl | rfl | rfl | rfl | rfl | rfl | rfl
          · -- 0
            simp only [List.getElem?_toArray, List.getElem?_cons_zero, List.getElem?_cons_succ, Option.some.injEq] at ho
            subst ho
            simp -implicitDefEqProofs only [go_sem, ↓reduceIte, Nat.reduceEqDiff, Nat.reduceLT, Nat.reduceLeDiff, Nat.reduceAdd, Nat.reduceMul, Nat.reduceSub, reduceCtorEq, Nat.reduceMod, Nat.reduceBEq, Int.reduceBEq, Int.reduceBNe, Int.reduceToNat, g11, g14, g15, hinq, hinp, fitq, fitp, fitq2, cellsO_bare, cellsO_at mx q b hb2, cellsO_at mx p a ha2, psplice, c1, c2, set_set]
            exact hK' _ _ ⟨envD_put2 (by rw [hds]; rfl) (by rw [hds]; simp), by simp [hS2]⟩
          · -- 1
            simp only [List.getElem?_toArray, List.getElem?_cons_zero, List.getElem?_cons_succ, Option.some.injEq] at ho
            subst ho
            simp -implicitDefEqProofs only [go_sem, ↓reduceIte, Nat.reduceEqDiff, Nat.reduceLT, Nat.reduceLeDiff, Nat.reduceAdd, Nat.reduceMul, Nat.reduceSub, reduceCtorEq, Nat.reduceMod, Nat.reduceBEq, Int.reduceBEq, Int.reduceBNe, Int.reduceToNat, g11, g14, g15, hinq, hinp, fitq, fitp, fitq2, cellsO_bare, cellsO_at mx q b hb2, cellsO_at mx p a ha2, psplice, c1, c2, set_set]
            exact hK' _ _ ⟨envD_put2 (by rw [hds]; rfl) (by rw [hds]; simp), by simp [hS2]⟩
          · -- 2
            simp only [List.getElem?_toArray, List.getElem?_cons_zero, List.getElem?_cons_succ, Option.some.injEq] at ho
            subst ho
            simp -implicitDefEqProofs only [go_sem, ↓reduceIte, Nat.reduceEqDiff, Nat.reduceLT, Nat.reduceLeDiff, Nat.reduceAdd, Nat.reduceMul, Nat.reduceSub, reduceCtorEq, Nat.reduceMod, Nat.reduceBEq, Int.reduceBEq, Int.reduceBNe, Int.reduceToNat, g11, g14, g15, hinq, hinp, fitq, fitp, fitq2, cellsO_bare, cellsO_at mx q b hb2, cellsO_at mx p a ha2, psplice, c1, c2, set_set]
            exact hK' _ _ ⟨envD_put2 (by rw [hds]; rfl) (by rw [hds]; simp), by simp [hS2]⟩
          · -- 3
            simp only [List.getElem?_toArray, List.getElem?_cons_zero, List.getElem?_cons_succ, Option.some.injEq] at ho
            subst ho
            simp -implicitDefEqProofs only [go_sem, ↓reduceIte, Nat.reduceEqDiff, Nat.reduceLT, Nat.reduceLeDiff, Nat.reduceAdd, Nat.reduceMul, Nat.reduceSub, reduceCtorEq, Nat.reduceMod, Nat.reduceBEq, Int.reduceBEq, Int.reduceBNe, Int.reduceToNat, g11, g14, g15, hinq, hinp, fitq, fitp, fitq2, cellsO_bare, cellsO_at mx q b hb2, cellsO_at mx p a ha2, psplice, c1, c2, set_set]
            exact hK' _ _ ⟨envD_put2 (by rw [hds]; rfl) (by rw [hds]; simp), by simp [hS2]⟩
          · -- 4
            simp only [List.getElem?_toArray, List.getElem?_cons_zero, List.getElem?_cons_succ, Option.some.injEq] at ho
            subst ho
            simp -implicitDefEqProofs only [go_sem, ↓reduceIte, Nat.reduceEqDiff, Nat.reduceLT, Nat.reduceLeDiff, Nat.reduceAdd, Nat.reduceMul, Nat.reduceSub, reduceCtorEq, Nat.reduceMod, Nat.reduceBEq, Int.reduceBEq, Int.reduceBNe, Int.reduceToNat, g11, g14, g15, hinq, hinp, fitq, fitp, fitq2, cellsO_bare, cellsO_at mx q b hb2, cellsO_at mx p a ha2, psplice, c1, c2, set_set]
            exact hK' _ _ ⟨envD_put2 (by rw [hds]; rfl) (by rw [hds]; simp), by simp [hS2]⟩
          · -- 5
            simp only [List.getElem?_toArray, List.getElem?_cons_zero, List.getElem?_cons_succ, Option.some.injEq] at ho
            subst ho
            simp -implicitDefEqProofs only [go_sem, ↓reduceIte, Nat.reduceEqDiff, Nat.reduceLT, Nat.reduceLeDiff, Nat.reduceAdd, Nat.reduceMul, Nat.reduceSub, reduceCtorEq, Nat.reduceMod, Nat.reduceBEq, Int.reduceBEq, Int.reduceBNe, Int.reduceToNat, g11, g14, g15, hinq, hinp, fitq, fitp, fitq2, cellsO_bare, cellsO_at mx q b hb2, cellsO_at mx p a ha2, psplice, c1, c2, set_set]
            exact hK' _ _ ⟨envD_put2 (by rw [hds]; rfl) (by rw [hds]; simp), by simp [hS2]⟩
          · -- 6
            simp only [List.getElem?_toArray, List.getElem?_cons_zero, List.getElem?_cons_succ, Option.some.injEq] at ho
            subst ho
            have g74 := envD_done (ds := ds) (L := L) (e0 := E0) (d := 74) (i := 4) (by rw [hds]; rfl) (hdep 4 (by decide))
            have g75 := envD_done (ds := ds) (L := L) (e0 := E0) (d := 75) (i := 5) (by rw [hds]; rfl) (hdep 5 (by decide))
            simp -implicitDefEqProofs only [go_sem, ↓reduceIte, Nat.reduceEqDiff, Nat.reduceLT, Nat.reduceLeDiff, Nat.reduceAdd, Nat.reduceMul, Nat.reduceSub, reduceCtorEq, Nat.reduceMod, Nat.reduceBEq, Int.reduceBEq, Int.reduceBNe, Int.reduceToNat, g11, g14, g15, g74, g75, hinq, hinp, fitq, fitp, fitq2, cellsO_bare, cellsO_at mx q b hb2, cellsO_at mx p a ha2, psplice, c1, c2, set_set]
            exact hK' _ _ ⟨envD_put2 (by rw [hds]; rfl) (by rw [hds]; simp), by simp [hS2]⟩
          · -- 7
            simp only [List.getElem?_toArray, List.getElem?_cons_zero, List.getElem?_cons_succ, Option.some.injEq] at ho
            subst ho
            have g76 := envD_done (ds := ds) (L := L) (e0 := E0) (d := 76) (i := 6) (by rw [hds]; rfl) (hdep 6 (by decide))
            have z13 : L 13 = false := by
              cases h : L 13 with
              | false => rfl
              | true => rw [hcl 13 _ rfl h 7 (by decide)] at hLi; cases hLi
            have z15 : L 15 = false := by
              cases h : L 15 with
              | false => rfl
              | true => rw [hcl 15 _ rfl h 7 (by decide)] at hLi; cases hLi
            simp only [z13, z15, Bool.false_eq_true, if_false] at hS2
            subst hS2
            simp -implicitDefEqProofs only [go_sem, ↓reduceIte, Nat.reduceEqDiff, Nat.reduceLT, Nat.reduceLeDiff, Nat.reduceAdd, Nat.reduceMul, Nat.reduceSub, reduceCtorEq, Nat.reduceMod, Nat.reduceBEq, Int.reduceBEq, Int.reduceBNe, Int.reduceToNat, g11, g14, g15, g76, hx, hinq, hinp, fitq, fitp, fitq2, cellsO_bare, cellsO_at mx q b hb2, cellsO_at mx p a ha2, psplice, c1, c2, set_set]
            exact hK' _ _ ⟨envD_put2 (by rw [hds]; rfl) (by rw [hds]; simp), by simp [z13, z15]⟩
          · -- 8
            simp only [List.getElem?_toArray, List.getElem?_cons_zero, List.getElem?_cons_succ, Option.some.injEq] at ho
            subst ho
            simp -implicitDefEqProofs only [go_sem, ↓reduceIte, Nat.reduceEqDiff, Nat.reduceLT, Nat.reduceLeDiff, Nat.reduceAdd, Nat.reduceMul, Nat.reduceSub, reduceCtorEq, Nat.reduceMod, Nat.reduceBEq, Int.reduceBEq, Int.reduceBNe, Int.reduceToNat, g11, g14, g15, hinq, hinp, fitq, fitp, fitq2, cellsO_bare, cellsO_at mx q b hb2, cellsO_at mx p a ha2, psplice, c1, c2, set_set]
            exact hK' _ _ ⟨envD_put2 (by rw [hds]; rfl) (by rw [hds]; simp), by simp [hS2]⟩
          · -- 9
            simp only [List.getElem?_toArray, List.getElem?_cons_zero, List.getElem?_cons_succ, Option.some.injEq] at ho
            subst ho
            simp -implicitDefEqProofs only [go_sem, ↓reduceIte, Nat.reduceEqDiff, Nat.reduceLT, Nat.reduceLeDiff, Nat.reduceAdd, Nat.reduceMul, Nat.reduceSub, reduceCtorEq, Nat.reduceMod, Nat.reduceBEq, Int.reduceBEq, Int.reduceBNe, Int.reduceToNat, g11, g14, g15, hinq, hinp, fitq, fitp, fitq2, cellsO_bare, cellsO_at mx q b hb2, cellsO_at mx p a ha2, psplice, c1, c2, set_set]
            exact hK' _ _ ⟨envD_put2 (by rw [hds]; rfl) (by rw [hds]; simp), by simp [hS2]⟩
          · -- 10
            simp only [List.getElem?_toArray, List.getElem?_cons_zero, List.getElem?_cons_succ, Option.some.injEq] at ho
            subst ho
            have g78 := envD_done (ds := ds) (L := L) (e0 := E0) (d := 78) (i := 8) (by rw [hds]; rfl) (hdep 8 (by decide))
            have g79 := envD_done (ds := ds) (L := L) (e0 := E0) (d := 79) (i := 9) (by rw [hds]; rfl) (hdep 9 (by decide))
            simp -implicitDefEqProofs only [go_sem, ↓reduceIte, Nat.reduceEqDiff, Nat.reduceLT, Nat.reduceLeDiff, Nat.reduceAdd, Nat.reduceMul, Nat.reduceSub, reduceCtorEq, Nat.reduceMod, Nat.reduceBEq, Int.reduceBEq, Int.reduceBNe, Int.reduceToNat, g11, g14, g15, g78, g79, hinq, hinp, fitq, fitp, fitq2, cellsO_bare, cellsO_at mx q b hb2, cellsO_at mx p a ha2, psplice, c1, c2, set_set]
            exact hK' _ _ ⟨envD_put2 (by rw [hds]; rfl) (by rw [hds]; simp), by simp [hS2]⟩
          · -- 11
            simp only [List.getElem?_toArray, List.getElem?_cons_zero, List.getElem?_cons_succ, Option.some.injEq] at ho
            subst ho
            have g80 := envD_done (ds := ds) (L := L) (e0 := E0) (d := 80) (i := 10) (by rw [hds]; rfl) (hdep 10 (by decide))
            have z13 : L 13 = false := by
              cases h : L 13 with
              | false => rfl
              | true => rw [hcl 13 _ rfl h 11 (by decide)] at hLi; cases hLi
            have z15 : L 15 = false := by
              cases h : L 15 with
              | false => rfl
              | true => rw [hcl 15 _ rfl h 11 (by decide)] at hLi; cases hLi
            simp only [z13, z15, Bool.false_eq_true, if_false] at hS2
            subst hS2
            simp -implicitDefEqProofs only [go_sem, ↓reduceIte, Nat.reduceEqDiff, Nat.reduceLT, Nat.reduceLeDiff, Nat.reduceAdd, Nat.reduceMul, Nat.reduceSub, reduceCtorEq, Nat.reduceMod, Nat.reduceBEq, Int.reduceBEq, Int.reduceBNe, Int.reduceToNat, g11, g14, g15, g80, hx, hinq, hinp, fitq, fitp, fitq2, cellsO_bare, cellsO_at mx q b hb2, cellsO_at mx p a ha2, psplice, c1, c2, set_set]
            exact hK' _ _ ⟨envD_put2 (by rw [hds]; rfl) (by rw [hds]; simp), by simp [z13, z15]⟩
          · -- 12
            simp only [List.getElem?_toArray, List.getElem?_cons_zero, List.getElem?_cons_succ, Option.some.injEq] at ho
            subst ho
            have g70 := envD_done (ds := ds) (L := L) (e0 := E0) (d := 70) (i := 0) (by rw [hds]; rfl) (hdep 0 (by decide))
            have g71 := envD_done (ds := ds) (L := L) (e0 := E0) (d := 71) (i := 1) (by rw [hds]; rfl) (hdep 1 (by decide))
            simp -implicitDefEqProofs only [go_sem, ↓reduceIte, Nat.reduceEqDiff, Nat.reduceLT, Nat.reduceLeDiff, Nat.reduceAdd, Nat.reduceMul, Nat.reduceSub, reduceCtorEq, Nat.reduceMod, Nat.reduceBEq, Int.reduceBEq, Int.reduceBNe, Int.reduceToNat, g11, g14, g15, g70, g71, hinq, hinp, fitq, fitp, fitq2, cellsO_bare, cellsO_at mx q b hb2, cellsO_at mx p a ha2, psplice, c1, c2, set_set]
            exact hK' _ _ ⟨envD_put2 (by rw [hds]; rfl) (by rw [hds]; simp), by simp [hS2]⟩
          · -- 13
            simp only [List.getElem?_toArray, List.getElem?_cons_zero, List.getElem?_cons_succ, Option.some.injEq] at ho
            subst ho
            have g82 := envD_done (ds := ds) (L := L) (e0 := E0) (d := 82) (i := 12) (by rw [hds]; rfl) (hdep 12 (by decide))
            have g77 := envD_done (ds := ds) (L := L) (e0 := E0) (d := 77) (i := 7) (by rw [hds]; rfl) (hdep 7 (by decide))
            have z13 : L 13 = false := hLi
            have z15 : L 15 = false := by
              cases h : L 15 with
              | false => rfl
              | true => rw [hcl 15 _ rfl h 13 (by decide)] at hLi; cases hLi
            simp only [z13, z15, Bool.false_eq_true, if_false] at hS2
            subst hS2
            simp -implicitDefEqProofs only [go_sem, ↓reduceIte, Nat.reduceEqDiff, Nat.reduceLT, Nat.reduceLeDiff, Nat.reduceAdd, Nat.reduceMul, Nat.reduceSub, reduceCtorEq, Nat.reduceMod, Nat.reduceBEq, Int.reduceBEq, Int.reduceBNe, Int.reduceToNat, g11, g14, g15, g82, g77, hx, hinq, hinp, fitq, fitp, fitq2, cellsO_bare, cellsO_at mx q b hb2, cellsO_at mx p a ha2, psplice, c1, c2, set_set]
            exact hK' _ _ ⟨envD_skip (by rw [hds]; simp), by simp [z13, z15]⟩
          · -- 14
            simp only [List.getElem?_toArray, List.getElem?_cons_zero, List.getElem?_cons_succ, Option.some.injEq] at ho
            subst ho
            have g72 := envD_done (ds := ds) (L := L) (e0 := E0) (d := 72) (i := 2) (by rw [hds]; rfl) (hdep 2 (by decide))
            have g73 := envD_done (ds := ds) (L := L) (e0 := E0) (d := 73) (i := 3) (by rw [hds]; rfl) (hdep 3 (by decide))
            simp -implicitDefEqProofs only [go_sem, ↓reduceIte, Nat.reduceEqDiff, Nat.reduceLT, Nat.reduceLeDiff, Nat.reduceAdd, Nat.reduceMul, Nat.reduceSub, reduceCtorEq, Nat.reduceMod, Nat.reduceBEq, Int.reduceBEq, Int.reduceBNe, Int.reduceToNat, g11, g14, g15, g72, g73, hinq, hinp, fitq, fitp, fitq2, cellsO_bare, cellsO_at mx q b hb2, cellsO_at mx p a ha2, psplice, c1, c2, set_set]
            exact hK' _ _ ⟨envD_put2 (by rw [hds]; rfl) (by rw [hds]; simp), by simp [hS2]⟩
          · -- 15
            simp only [List.getElem?_toArray, List.getElem?_cons_zero, List.getElem?_cons_succ, Option.some.injEq] at ho
            subst ho
            have g83 := envD_done (ds := ds) (L := L) (e0 := E0) (d := 83) (i := 14) (by rw [hds]; rfl) (hdep 14 (by decide))
            have g81 := envD_done (ds := ds) (L := L) (e0 := E0) (d := 81) (i := 11) (by rw [hds]; rfl) (hdep 11 (by decide))
            have z13 : L 13 = true := hdep 13 (by decide)
            simp only [z13, hLi, Bool.false_eq_true, if_false, if_true] at hS2
            subst hS2
            have hx2 := set_at S' idm (some (cellsO (mx.set p b)))
            simp -implicitDefEqProofs only [go_sem, ↓reduceIte, Nat.reduceEqDiff, Nat.reduceLT, Nat.reduceLeDiff, Nat.reduceAdd, Nat.reduceMul, Nat.reduceSub, reduceCtorEq, Nat.reduceMod, Nat.reduceBEq, Int.reduceBEq, Int.reduceBNe, Int.reduceToNat, g11, g14, g15, g83, g81, hx2, hinq, hinp, fitq, fitp, fitq2, cellsO_bare, cellsO_at mx q b hb2, cellsO_at mx p a ha2, psplice, c1, c2, set_set]
            exact hK' _ _ ⟨envD_skip (by rw [hds]; simp), by simp [z13]⟩
        · intro L e2 S2 hall hI
          obtain ⟨rfl, hS2⟩ := hI
          have z15 : L 15 = true := hall 15 (by decide)
          simp only [z15, if_true] at hS2
          subst hS2
          have go : ∀ d, ds.find? (fun x => x.1 == d) = none → envD ds L E0 d = E0 d := fun d h => envD_old h
          have g51 := (go 51 (by rw [hds]; rfl)).trans f51
          simp -implicitDefEqProofs only [go_sem, ↓reduceIte, Nat.reduceEqDiff, Nat.reduceLT, Nat.reduceLeDiff, Nat.reduceAdd, Nat.reduceMul, Nat.reduceSub, reduceCtorEq, Nat.reduceMod, Nat.reduceBEq, Int.reduceBEq, Int.reduceBNe, Int.reduceToNat, g51, hk1]
          refine vnext hJ hM _ (fun _ _ h => h) ⟨k + 1, (mx.set p b).set q a, (swap_perm ha2 hb2).trans pm, sb.set hidm' _, hm.other n1, ha.other n2, hb.other n3, set_at _ _ _, hlt, ?_, ?_, ?_, ?_, ?_, ?_, ?_, ?_⟩ ?_
          · simp -implicitDefEqProofs only [go_sem, ↓reduceIte, Nat.reduceEqDiff, Nat.reduceLT, Nat.reduceLeDiff, Nat.reduceAdd, Nat.reduceMul, Nat.reduceSub, reduceCtorEq, Nat.reduceMod, Nat.reduceBEq, Int.reduceBEq, Int.reduceBNe, Int.reduceToNat, (go 1 (by rw [hds]; rfl)).trans f1]
          · simp -implicitDefEqProofs only [go_sem, ↓reduceIte, Nat.reduceEqDiff, Nat.reduceLT, Nat.reduceLeDiff, Nat.reduceAdd, Nat.reduceMul, Nat.reduceSub, reduceCtorEq, Nat.reduceMod, Nat.reduceBEq, Int.reduceBEq, Int.reduceBNe, Int.reduceToNat, (go 7 (by rw [hds]; rfl)).trans f7]
          · simp -implicitDefEqProofs only [go_sem, ↓reduceIte, Nat.reduceEqDiff, Nat.reduceLT, Nat.reduceLeDiff, Nat.reduceAdd, Nat.reduceMul, Nat.reduceSub, reduceCtorEq, Nat.reduceMod, Nat.reduceBEq, Int.reduceBEq, Int.reduceBNe, Int.reduceToNat, (go 9 (by rw [hds]; rfl)).trans f9]
          · simp -implicitDefEqProofs only [go_sem, ↓reduceIte, Nat.reduceEqDiff, Nat.reduceLT, Nat.reduceLeDiff, Nat.reduceAdd, Nat.reduceMul, Nat.reduceSub, reduceCtorEq, Nat.reduceMod, Nat.reduceBEq, Int.reduceBEq, Int.reduceBNe, Int.reduceToNat, (go 10 (by rw [hds]; rfl)).trans f10]
          · simp -implicitDefEqProofs only [go_sem, ↓reduceIte, Nat.reduceEqDiff, Nat.reduceLT, Nat.reduceLeDiff, Nat.reduceAdd, Nat.reduceMul, Nat.reduceSub, reduceCtorEq, Nat.reduceMod, Nat.reduceBEq, Int.reduceBEq, Int.reduceBNe, Int.reduceToNat, (go 11 (by rw [hds]; rfl)).trans f11]
          · simp -implicitDefEqProofs only [go_sem, ↓reduceIte, Nat.reduceEqDiff, Nat.reduceLT, Nat.reduceLeDiff, Nat.reduceAdd, Nat.reduceMul, Nat.reduceSub, reduceCtorEq, Nat.reduceMod, Nat.reduceBEq, Int.reduceBEq, Int.reduceBNe, Int.reduceToNat, (go 49 (by rw [hds]; rfl)).trans f49]
          · simp -implicitDefEqProofs only [go_sem, ↓reduceIte, Nat.reduceEqDiff, Nat.reduceLT, Nat.reduceLeDiff, Nat.reduceAdd, Nat.reduceMul, Nat.reduceSub, reduceCtorEq, Nat.reduceMod, Nat.reduceBEq, Int.reduceBEq, Int.reduceBNe, Int.reduceToNat, (go 50 (by rw [hds]; rfl)).trans f50]
          · simp -implicitDefEqProofs only [go_sem, ↓reduceIte, Nat.reduceEqDiff, Nat.reduceLT, Nat.reduceLeDiff, Nat.reduceAdd, Nat.reduceMul, Nat.reduceSub, reduceCtorEq, Nat.reduceMod, Nat.reduceBEq, Int.reduceBEq, Int.reduceBNe, Int.reduceToNat]
          · simp -implicitDefEqProofs only [go_sem, ↓reduceIte, Nat.reduceEqDiff, Nat.reduceLT, Nat.reduceLeDiff, Nat.reduceAdd, Nat.reduceMul, Nat.reduceSub, reduceCtorEq, Nat.reduceMod, Nat.reduceBEq, Int.reduceBEq, Int.reduceBNe, Int.reduceToNat, e51]
            omega
      · have d0 : ¬ (0 : Int) < (ops.length : Int) := by omega
        simp -implicitDefEqProofs only [go_sem, ↓reduceIte, Nat.reduceEqDiff, Nat.reduceLT, Nat.reduceLeDiff, Nat.reduceAdd, Nat.reduceMul, Nat.reduceSub, reduceCtorEq, Nat.reduceMod, Nat.reduceBEq, Int.reduceBEq, Int.reduceBNe, Int.reduceToNat, hin, hlt, e11, e49, e50, e51, getD_encI htu, d0, hk1]
        refine vnext hJ hM _ (fun _ _ h => h) ⟨k + 1, mx, pm, sb, hm, ha, hb, hx, hlt, ?_, ?_, ?_, ?_, ?_, ?_, ?_, ?_⟩ ?_
        · simp -implicitDefEqProofs only [go_sem, ↓reduceIte, Nat.reduceEqDiff, Nat.reduceLT, Nat.reduceLeDiff, Nat.reduceAdd, Nat.reduceMul, Nat.reduceSub, reduceCtorEq, Nat.reduceMod, Nat.reduceBEq, Int.reduceBEq, Int.reduceBNe, Int.reduceToNat, e1]
        · simp -implicitDefEqProofs only [go_sem, ↓reduceIte, Nat.reduceEqDiff, Nat.reduceLT, Nat.reduceLeDiff, Nat.reduceAdd, Nat.reduceMul, Nat.reduceSub, reduceCtorEq, Nat.reduceMod, Nat.reduceBEq, Int.reduceBEq, Int.reduceBNe, Int.reduceToNat, e7]
        · simp -implicitDefEqProofs only [go_sem, ↓reduceIte, Nat.reduceEqDiff, Nat.reduceLT, Nat.reduceLeDiff, Nat.reduceAdd, Nat.reduceMul, Nat.reduceSub, reduceCtorEq, Nat.reduceMod, Nat.reduceBEq, Int.reduceBEq, Int.reduceBNe, Int.reduceToNat, e9]
        · simp -implicitDefEqProofs only [go_sem, ↓reduceIte, Nat.reduceEqDiff, Nat.reduceLT, Nat.reduceLeDiff, Nat.reduceAdd, Nat.reduceMul, Nat.reduceSub, reduceCtorEq, Nat.reduceMod, Nat.reduceBEq, Int.reduceBEq, Int.reduceBNe, Int.reduceToNat, e10]
        · simp -implicitDefEqProofs only [go_sem, ↓reduceIte, Nat.reduceEqDiff, Nat.reduceLT, Nat.reduceLeDiff, Nat.reduceAdd, Nat.reduceMul, Nat.reduceSub, reduceCtorEq, Nat.reduceMod, Nat.reduceBEq, Int.reduceBEq, Int.reduceBNe, Int.reduceToNat, e11]
        · simp -implicitDefEqProofs only [go_sem, ↓reduceIte, Nat.reduceEqDiff, Nat.reduceLT, Nat.reduceLeDiff, Nat.reduceAdd, Nat.reduceMul, Nat.reduceSub, reduceCtorEq, Nat.reduceMod, Nat.reduceBEq, Int.reduceBEq, Int.reduceBNe, Int.reduceToNat, e49]
        · simp -implicitDefEqProofs only [go_sem, ↓reduceIte, Nat.reduceEqDiff, Nat.reduceLT, Nat.reduceLeDiff, Nat.reduceAdd, Nat.reduceMul, Nat.reduceSub, reduceCtorEq, Nat.reduceMod, Nat.reduceBEq, Int.reduceBEq, Int.reduceBNe, Int.reduceToNat, e50]
        · simp -implicitDefEqProofs only [go_sem, ↓reduceIte, Nat.reduceEqDiff, Nat.reduceLT, Nat.reduceLeDiff, Nat.reduceAdd, Nat.reduceMul, Nat.reduceSub, reduceCtorEq, Nat.reduceMod, Nat.reduceBEq, Int.reduceBEq, Int.reduceBNe, Int.reduceToNat]
        · simp -implicitDefEqProofs only [go_sem, ↓reduceIte, Nat.reduceEqDiff, Nat.reduceLT, Nat.reduceLeDiff, Nat.reduceAdd, Nat.reduceMul, Nat.reduceSub, reduceCtorEq, Nat.reduceMod, Nat.reduceBEq, Int.reduceBEq, Int.reduceBNe, Int.reduceToNat, e51]
          omega
    · have hcc : ¬ (k : Int) < turns.length := by omega
      simp -implicitDefEqProofs only [go_sem, ↓reduceIte, Nat.reduceEqDiff, Nat.reduceLT, Nat.reduceLeDiff, Nat.reduceAdd, Nat.reduceMul, Nat.reduceSub, reduceCtorEq, Nat.reduceMod, Nat.reduceBEq, Int.reduceBEq, Int.reduceBNe, Int.reduceToNat, hcc, e50, e51]
      refine hQ _ _ _ ?_
      simp -implicitDefEqProofs only [go_sem, ↓reduceIte, Nat.reduceEqDiff, Nat.reduceLT, Nat.reduceLeDiff, Nat.reduceAdd, Nat.reduceMul, Nat.reduceSub, reduceCtorEq, Nat.reduceMod, Nat.reduceBEq, Int.reduceBEq, Int.reduceBNe, Int.reduceToNat, e1, e7]
      refine PCalls.unflag ?_
      refine KDo_calls hm (by rw [ht]; omega) 1 [] ops _ fun u ku lu => ?_
      rw [ht] at lu ⊢
      have ha1 := ha.other (c := some [.ip [enc u] 0]) (Ne.symm na)
      have hb1 := hb.other (c := some [.ip [enc u] 0]) (Ne.symm nb)
      have hx1 : (S'.set id (some [.ip [enc u] 0])) idm = some (cellsO mx) := by rw [set_ne (Ne.symm n1)]; exact hx
      have sb1 := sb.set hid (some [.ip [enc u] 0])
      generalize S'.set id (some [.ip [enc u] 0]) = B4 at ku ha1 hb1 hx1 sb1 ⊢
      unfold encPl
      simp -implicitDefEqProofs only [go_sem, ↓reduceIte, Nat.reduceEqDiff, Nat.reduceLT, Nat.reduceLeDiff, Nat.reduceAdd, Nat.reduceMul, Nat.reduceSub, reduceCtorEq, Nat.reduceMod, Nat.reduceBEq, Int.reduceBEq, Int.reduceBNe, Int.reduceToNat, e9, e11]
      refine PCalls.giveArr (id := idm) (args' := [.ref ida 0, .int .i64 1, .sl .no 3 (encOs []), .sl .no 3 (encOs mx)]) hx1 rfl ?_ fun G hG => ?_
      · rintro (_ | _ | _ | _ | n) x y hx0 hy0
        · simp at hx0 hy0; subst hx0; subst hy0; exact ⟨.refl _, rfl⟩
        · simp at hx0 hy0; subst hx0; subst hy0; exact ⟨.refl _, rfl⟩
        · simp at hx0 hy0; subst hx0; subst hy0; exact ⟨.bare (.sl .tail 3 []), rfl⟩
        · simp at hx0 hy0; subst hx0; subst hy0; rw [← pm.length_eq]; exact ⟨fz_cellsO mx (by simp), rfl⟩
        · simp at hx0
      have kuG : Km G id u := ⟨by rw [hG id n1]; exact ku.1, ku.2⟩
      have kaG : Km G ida t := ⟨by rw [hG ida n2]; exact ha1.1, ha1.2⟩
      have kbG : Km G idb t := ⟨by rw [hG idb n3]; exact hb1.1, hb1.2⟩
      have sbG : Sub S G := fun i x hi => by
        rw [hG i fun h => by rw [h, hidm'] at hi; cases hi]
        exact sb1 i x hi
      refine KDo_calls kaG (by rw [ht]; omega) 1 [] mx _ fun v kv lv => ?_
      rw [ht] at lv ⊢
      have ku3 := kuG.other (c := some [.ip [enc v] 0]) na
      have kb3 := kbG.other (c := some [.ip [enc v] 0]) (Ne.symm nab)
      have sbv := sbG.set hida' (some [.ip [enc v] 0])
      generalize G.set ida (some [.ip [enc v] 0]) = B5 at kv ku3 kb3 sbv ⊢
      unfold encPl
      have pp := plan_perm L 1 pm.symm
      by_cases he : (planF L 1 [] ops).2 = 0
      · have hf0 := pp (.inl he)
        have hdo := do_perm m1 pm.symm he
        obtain ⟨hde, hfine, hn24⟩ := do_ops m1 he
        have hu : u.list = opsL L ops := lu.trans hde
        have hv : v.list = opsL L ops := by rw [lv, hdo, hde]
        have hlenO := opsL_len m1 (fine_iff.2 hfine)
        have hdel : ∀ n, (opsL L (dels (ops.take n))).length ≤ 24 := fun n => Nat.le_trans (opsL_dels_len (L := L) _ L m1 fun x hx => by simpa [dels] using (List.mem_filter.1 hx).2) m6
        have hput : ∀ n, (opsL L (dels ops ++ puts (ops.take n))).length ≤ 24 := fun n => by
          have h1 := puts_len m1 hfine n
          omega
        rw [hf0, he]
        simp -implicitDefEqProofs only [go_sem, ↓reduceIte, Nat.reduceEqDiff, Nat.reduceLT, Nat.reduceLeDiff, Nat.reduceAdd, Nat.reduceMul, Nat.reduceSub, reduceCtorEq, Nat.reduceMod, Nat.reduceBEq, Int.reduceBEq, Int.reduceBNe, Int.reduceToNat, i00, e1, e7, e9, e10]
        refine vloop (fun e S2 => ∃ (m : Nat) (w : T), Sub S S2 ∧ Km S2 id u ∧ Km S2 ida v ∧ Km S2 idb w ∧ w.list = opsL L (dels (ops.take m)) ∧ m ≤ ops.length ∧ e 1 = .sl .no 3 (encOs ops) ∧ e 7 = .ref id 0 ∧ e 9 = .ref ida 0 ∧ e 10 = .ref idb 0 ∧ e 19 = .int .i64 0 ∧ e 109 = .sl .no 3 (encOs ops) ∧ e 110 = .int .i64 ops.length ∧ e 111 = .int .i64 m) (fun e _ => ops.length - iv (e 111)) ?_ ?_
        · exact ⟨0, t, sbv, ku3, kv, kb3, by rw [ht]; rfl, Nat.zero_le _, by simp -implicitDefEqProofs only [go_sem, ↓reduceIte, Nat.reduceEqDiff, Nat.reduceLT, Nat.reduceLeDiff, Nat.reduceAdd, Nat.reduceMul, Nat.reduceSub, reduceCtorEq, Nat.reduceMod, Nat.reduceBEq, Int.reduceBEq, Int.reduceBNe, Int.reduceToNat, e1], by simp -implicitDefEqProofs only [go_sem, ↓reduceIte, Nat.reduceEqDiff, Nat.reduceLT, Nat.reduceLeDiff, Nat.reduceAdd, Nat.reduceMul, Nat.reduceSub, reduceCtorEq, Nat.reduceMod, Nat.reduceBEq, Int.reduceBEq, Int.reduceBNe, Int.reduceToNat, e7], by simp -implicitDefEqProofs only [go_sem, ↓reduceIte, Nat.reduceEqDiff, Nat.reduceLT, Nat.reduceLeDiff, Nat.reduceAdd, Nat.reduceMul, Nat.reduceSub, reduceCtorEq, Nat.reduceMod, Nat.reduceBEq, Int.reduceBEq, Int.reduceBNe, Int.reduceToNat, e9], by simp -implicitDefEqProofs only [go_sem, ↓reduceIte, Nat.reduceEqDiff, Nat.reduceLT, Nat.reduceLeDiff, Nat.reduceAdd, Nat.reduceMul, Nat.reduceSub, reduceCtorEq, Nat.reduceMod, Nat.reduceBEq, Int.reduceBEq, Int.reduceBNe, Int.reduceToNat, e10], by simp -implicitDefEqProofs only [go_sem, ↓reduceIte, Nat.reduceEqDiff, Nat.reduceLT, Nat.reduceLeDiff, Nat.reduceAdd, Nat.reduceMul, Nat.reduceSub, reduceCtorEq, Nat.reduceMod, Nat.reduceBEq, Int.reduceBEq, Int.reduceBNe, Int.reduceToNat], by simp -implicitDefEqProofs only [go_sem, ↓reduceIte, Nat.reduceEqDiff, Nat.reduceLT, Nat.reduceLeDiff, Nat.reduceAdd, Nat.reduceMul, Nat.reduceSub, reduceCtorEq, Nat.reduceMod, Nat.reduceBEq, Int.reduceBEq, Int.reduceBNe, Int.reduceToNat], by simp -implicitDefEqProofs only [go_sem, ↓reduceIte, Nat.reduceEqDiff, Nat.reduceLT, Nat.reduceLeDiff, Nat.reduceAdd, Nat.reduceMul, Nat.reduceSub, reduceCtorEq, Nat.reduceMod, Nat.reduceBEq, Int.reduceBEq, Int.reduceBNe, Int.reduceToNat], by simp -implicitDefEqProofs only [go_sem, ↓reduceIte, Nat.reduceEqDiff, Nat.reduceLT, Nat.reduceLeDiff, Nat.reduceAdd, Nat.reduceMul, Nat.reduceSub, reduceCtorEq, Nat.reduceMod, Nat.reduceBEq, Int.reduceBEq, Int.reduceBNe, Int.reduceToNat]⟩
        · rintro J2 M2 Q2 hJ2 hM2 hQ2 e2 S2 ⟨m, w, sb2, ku2, kv2, kw, hw, hm2, g1, g7, g9, g10, g19, gl, gn, gi⟩
          by_cases hlm : m < ops.length
          · obtain ⟨o, ho⟩ : ∃ o, ops[m]? = some o := ⟨_, List.getElem?_eq_getElem hlm⟩
            have hin2 : (0 : Int) ≤ m ∧ (m : Int) < ops.length := by omega
            have hm1 : IntKind.i64.wrap ((m : Int) + 1) = ((m + 1 : Nat) : Int) := wrap64 (by omega) (by omega)
            obtain ⟨bo, ko⟩ := hfine.1 o (List.mem_of_getElem? ho)
            have hstep := dels_take ho
            have hbnd := hdel m
            obtain ⟨ok, oh, ov⟩ := o
            cases oh
            · -- drop
              simp only [Bool.false_eq_true, if_false, if_true] at hstep
              simp -implicitDefEqProofs only [go_sem, ↓reduceIte, Nat.reduceEqDiff, Nat.reduceLT, Nat.reduceLeDiff, Nat.reduceAdd, Nat.reduceMul, Nat.reduceSub, reduceCtorEq, Nat.reduceMod, Nat.reduceBEq, Int.reduceBEq, Int.reduceBNe, Int.reduceToNat, hin2, hlm, g10, gl, gn, gi, getD_encOs ho]
              refine PCalls.unflag ?_
              have hone := one_do kw.2.2 bo ko (by rw [hw]; rw [show opDo (opsL L (dels (ops.take m))) ⟨ok, false, ov⟩ = opsL L (dels (ops.take (m + 1))) by rw [hstep, opsL_app]; rfl]; exact hdel (m + 1)) 1
              refine KDo_calls kw (by rw [hw]; omega) 1 [] [⟨ok, false, ov⟩] _ fun w2 kw2 lw2 => ?_
              rw [hone] at lw2
              generalize encPl (planF w.list 1 [] [⟨ok, false, ov⟩]) = r
              simp -implicitDefEqProofs only [go_sem, ↓reduceIte, Nat.reduceEqDiff, Nat.reduceLT, Nat.reduceLeDiff, Nat.reduceAdd, Nat.reduceMul, Nat.reduceSub, reduceCtorEq, Nat.reduceMod, Nat.reduceBEq, Int.reduceBEq, Int.reduceBNe, Int.reduceToNat, gi, hm1]
              refine vnext hJ2 hM2 _ (fun _ _ h => h) ⟨m + 1, w2, sb2.set hidb' _, ku2.other nb, kv2.other nab, kw2, ?_, hlm, ?_, ?_, ?_, ?_, ?_, ?_, ?_, ?_⟩ ?_
              · rw [lw2, hw, hstep]; rw [opsL_app]; rfl
              · simp -implicitDefEqProofs only [go_sem, ↓reduceIte, Nat.reduceEqDiff, Nat.reduceLT, Nat.reduceLeDiff, Nat.reduceAdd, Nat.reduceMul, Nat.reduceSub, reduceCtorEq, Nat.reduceMod, Nat.reduceBEq, Int.reduceBEq, Int.reduceBNe, Int.reduceToNat, g1]
              · simp -implicitDefEqProofs only [go_sem, ↓reduceIte, Nat.reduceEqDiff, Nat.reduceLT, Nat.reduceLeDiff, Nat.reduceAdd, Nat.reduceMul, Nat.reduceSub, reduceCtorEq, Nat.reduceMod, Nat.reduceBEq, Int.reduceBEq, Int.reduceBNe, Int.reduceToNat, g7]
              · simp -implicitDefEqProofs only [go_sem, ↓reduceIte, Nat.reduceEqDiff, Nat.reduceLT, Nat.reduceLeDiff, Nat.reduceAdd, Nat.reduceMul, Nat.reduceSub, reduceCtorEq, Nat.reduceMod, Nat.reduceBEq, Int.reduceBEq, Int.reduceBNe, Int.reduceToNat, g9]
              · simp -implicitDefEqProofs only [go_sem, ↓reduceIte, Nat.reduceEqDiff, Nat.reduceLT, Nat.reduceLeDiff, Nat.reduceAdd, Nat.reduceMul, Nat.reduceSub, reduceCtorEq, Nat.reduceMod, Nat.reduceBEq, Int.reduceBEq, Int.reduceBNe, Int.reduceToNat, g10]
              · simp -implicitDefEqProofs only [go_sem, ↓reduceIte, Nat.reduceEqDiff, Nat.reduceLT, Nat.reduceLeDiff, Nat.reduceAdd, Nat.reduceMul, Nat.reduceSub, reduceCtorEq, Nat.reduceMod, Nat.reduceBEq, Int.reduceBEq, Int.reduceBNe, Int.reduceToNat, g19]
              · simp -implicitDefEqProofs only [go_sem, ↓reduceIte, Nat.reduceEqDiff, Nat.reduceLT, Nat.reduceLeDiff, Nat.reduceAdd, Nat.reduceMul, Nat.reduceSub, reduceCtorEq, Nat.reduceMod, Nat.reduceBEq, Int.reduceBEq, Int.reduceBNe, Int.reduceToNat, gl]
              · simp -implicitDefEqProofs only [go_sem, ↓reduceIte, Nat.reduceEqDiff, Nat.reduceLT, Nat.reduceLeDiff, Nat.reduceAdd, Nat.reduceMul, Nat.reduceSub, reduceCtorEq, Nat.reduceMod, Nat.reduceBEq, Int.reduceBEq, Int.reduceBNe, Int.reduceToNat, gn]
              · simp -implicitDefEqProofs only [go_sem, ↓reduceIte, Nat.reduceEqDiff, Nat.reduceLT, Nat.reduceLeDiff, Nat.reduceAdd, Nat.reduceMul, Nat.reduceSub, reduceCtorEq, Nat.reduceMod, Nat.reduceBEq, Int.reduceBEq, Int.reduceBNe, Int.reduceToNat]
              · simp -implicitDefEqProofs only [go_sem, ↓reduceIte, Nat.reduceEqDiff, Nat.reduceLT, Nat.reduceLeDiff, Nat.reduceAdd, Nat.reduceMul, Nat.reduceSub, reduceCtorEq, Nat.reduceMod, Nat.reduceBEq, Int.reduceBEq, Int.reduceBNe, Int.reduceToNat, gi]
                omega
            · -- put
              simp only [Bool.false_eq_true, if_false, if_true, List.append_nil] at hstep
              simp -implicitDefEqProofs only [go_sem, ↓reduceIte, Nat.reduceEqDiff, Nat.reduceLT, Nat.reduceLeDiff, Nat.reduceAdd, Nat.reduceMul, Nat.reduceSub, reduceCtorEq, Nat.reduceMod, Nat.reduceBEq, Int.reduceBEq, Int.reduceBNe, Int.reduceToNat, hin2, hlm, g10, gl, gn, gi, getD_encOs ho, hm1]
              refine vnext hJ2 hM2 _ (fun _ _ h => h) ⟨m + 1, w, sb2, ku2, kv2, kw, ?_, hlm, ?_, ?_, ?_, ?_, ?_, ?_, ?_, ?_⟩ ?_
              · rw [hw, hstep]
              · simp -implicitDefEqProofs only [go_sem, ↓reduceIte, Nat.reduceEqDiff, Nat.reduceLT, Nat.reduceLeDiff, Nat.reduceAdd, Nat.reduceMul, Nat.reduceSub, reduceCtorEq, Nat.reduceMod, Nat.reduceBEq, Int.reduceBEq, Int.reduceBNe, Int.reduceToNat, g1]
              · simp -implicitDefEqProofs only [go_sem, ↓reduceIte, Nat.reduceEqDiff, Nat.reduceLT, Nat.reduceLeDiff, Nat.reduceAdd, Nat.reduceMul, Nat.reduceSub, reduceCtorEq, Nat.reduceMod, Nat.reduceBEq, Int.reduceBEq, Int.reduceBNe, Int.reduceToNat, g7]
              · simp -implicitDefEqProofs only [go_sem, ↓reduceIte, Nat.reduceEqDiff, Nat.reduceLT, Nat.reduceLeDiff, Nat.reduceAdd, Nat.reduceMul, Nat.reduceSub, reduceCtorEq, Nat.reduceMod, Nat.reduceBEq, Int.reduceBEq, Int.reduceBNe, Int.reduceToNat, g9]
              · simp -implicitDefEqProofs only [go_sem, ↓reduceIte, Nat.reduceEqDiff, Nat.reduceLT, Nat.reduceLeDiff, Nat.reduceAdd, Nat.reduceMul, Nat.reduceSub, reduceCtorEq, Nat.reduceMod, Nat.reduceBEq, Int.reduceBEq, Int.reduceBNe, Int.reduceToNat, g10]
              · simp -implicitDefEqProofs only [go_sem, ↓reduceIte, Nat.reduceEqDiff, Nat.reduceLT, Nat.reduceLeDiff, Nat.reduceAdd, Nat.reduceMul, Nat.reduceSub, reduceCtorEq, Nat.reduceMod, Nat.reduceBEq, Int.reduceBEq, Int.reduceBNe, Int.reduceToNat, g19]
              · simp -implicitDefEqProofs only [go_sem, ↓reduceIte, Nat.reduceEqDiff, Nat.reduceLT, Nat.reduceLeDiff, Nat.reduceAdd, Nat.reduceMul, Nat.reduceSub, reduceCtorEq, Nat.reduceMod, Nat.reduceBEq, Int.reduceBEq, Int.reduceBNe, Int.reduceToNat, gl]
              · simp -implicitDefEqProofs only [go_sem, ↓reduceIte, Nat.reduceEqDiff, Nat.reduceLT, Nat.reduceLeDiff, Nat.reduceAdd, Nat.reduceMul, Nat.reduceSub, reduceCtorEq, Nat.reduceMod, Nat.reduceBEq, Int.reduceBEq, Int.reduceBNe, Int.reduceToNat, gn]
              · simp -implicitDefEqProofs only [go_sem, ↓reduceIte, Nat.reduceEqDiff, Nat.reduceLT, Nat.reduceLeDiff, Nat.reduceAdd, Nat.reduceMul, Nat.reduceSub, reduceCtorEq, Nat.reduceMod, Nat.reduceBEq, Int.reduceBEq, Int.reduceBNe, Int.reduceToNat]
              · simp -implicitDefEqProofs only [go_sem, ↓reduceIte, Nat.reduceEqDiff, Nat.reduceLT, Nat.reduceLeDiff, Nat.reduceAdd, Nat.reduceMul, Nat.reduceSub, reduceCtorEq, Nat.reduceMod, Nat.reduceBEq, Int.reduceBEq, Int.reduceBNe, Int.reduceToNat, gi]
                omega
          · have hcc2 : ¬ (m : Int) < ops.length := by omega
            rw [List.take_of_length_le (by omega)] at hw
            simp -implicitDefEqProofs only [go_sem, ↓reduceIte, Nat.reduceEqDiff, Nat.reduceLT, Nat.reduceLeDiff, Nat.reduceAdd, Nat.reduceMul, Nat.reduceSub, reduceCtorEq, Nat.reduceMod, Nat.reduceBEq, Int.reduceBEq, Int.reduceBNe, Int.reduceToNat, hcc2, gn, gi]
            refine hQ2 _ _ _ ?_
            simp -implicitDefEqProofs only [go_sem, ↓reduceIte, Nat.reduceEqDiff, Nat.reduceLT, Nat.reduceLeDiff, Nat.reduceAdd, Nat.reduceMul, Nat.reduceSub, reduceCtorEq, Nat.reduceMod, Nat.reduceBEq, Int.reduceBEq, Int.reduceBNe, Int.reduceToNat, g1]
            refine vloop (fun e S2 => ∃ (m : Nat) (w : T), Sub S S2 ∧ Km S2 id u ∧ Km S2 ida v ∧ Km S2 idb w ∧ w.list = opsL L (dels ops ++ puts (ops.take m)) ∧ m ≤ ops.length ∧ e 1 = .sl .no 3 (encOs ops) ∧ e 7 = .ref id 0 ∧ e 9 = .ref ida 0 ∧ e 10 = .ref idb 0 ∧ e 19 = .int .i64 0 ∧ e 123 = .sl .no 3 (encOs ops) ∧ e 124 = .int .i64 ops.length ∧ e 125 = .int .i64 m) (fun e _ => ops.length - iv (e 125)) ?_ ?_
            · exact ⟨0, w, sb2, ku2, kv2, kw, by rw [hw]; simp [puts], Nat.zero_le _, by simp -implicitDefEqProofs only [go_sem, ↓reduceIte, Nat.reduceEqDiff, Nat.reduceLT, Nat.reduceLeDiff, Nat.reduceAdd, Nat.reduceMul, Nat.reduceSub, reduceCtorEq, Nat.reduceMod, Nat.reduceBEq, Int.reduceBEq, Int.reduceBNe, Int.reduceToNat, g1], by simp -implicitDefEqProofs only [go_sem, ↓reduceIte, Nat.reduceEqDiff, Nat.reduceLT, Nat.reduceLeDiff, Nat.reduceAdd, Nat.reduceMul, Nat.reduceSub, reduceCtorEq, Nat.reduceMod, Nat.reduceBEq, Int.reduceBEq, Int.reduceBNe, Int.reduceToNat, g7], by simp -implicitDefEqProofs only [go_sem, ↓reduceIte, Nat.reduceEqDiff, Nat.reduceLT, Nat.reduceLeDiff, Nat.reduceAdd, Nat.reduceMul, Nat.reduceSub, reduceCtorEq, Nat.reduceMod, Nat.reduceBEq, Int.reduceBEq, Int.reduceBNe, Int.reduceToNat, g9], by simp -implicitDefEqProofs only [go_sem, ↓reduceIte, Nat.reduceEqDiff, Nat.reduceLT, Nat.reduceLeDiff, Nat.reduceAdd, Nat.reduceMul, Nat.reduceSub, reduceCtorEq, Nat.reduceMod, Nat.reduceBEq, Int.reduceBEq, Int.reduceBNe, Int.reduceToNat, g10], by simp -implicitDefEqProofs only [go_sem, ↓reduceIte, Nat.reduceEqDiff, Nat.reduceLT, Nat.reduceLeDiff, Nat.reduceAdd, Nat.reduceMul, Nat.reduceSub, reduceCtorEq, Nat.reduceMod, Nat.reduceBEq, Int.reduceBEq, Int.reduceBNe, Int.reduceToNat, g19], by simp -implicitDefEqProofs only [go_sem, ↓reduceIte, Nat.reduceEqDiff, Nat.reduceLT, Nat.reduceLeDiff, Nat.reduceAdd, Nat.reduceMul, Nat.reduceSub, reduceCtorEq, Nat.reduceMod, Nat.reduceBEq, Int.reduceBEq, Int.reduceBNe, Int.reduceToNat], by simp -implicitDefEqProofs only [go_sem, ↓reduceIte, Nat.reduceEqDiff, Nat.reduceLT, Nat.reduceLeDiff, Nat.reduceAdd, Nat.reduceMul, Nat.reduceSub, reduceCtorEq, Nat.reduceMod, Nat.reduceBEq, Int.reduceBEq, Int.reduceBNe, Int.reduceToNat], by simp -implicitDefEqProofs only [go_sem, ↓reduceIte, Nat.reduceEqDiff, Nat.reduceLT, Nat.reduceLeDiff, Nat.reduceAdd, Nat.reduceMul, Nat.reduceSub, reduceCtorEq, Nat.reduceMod, Nat.reduceBEq, Int.reduceBEq, Int.reduceBNe, Int.reduceToNat]⟩
            · rintro J3 M3 Q3 hJ3 hM3 hQ3 e3 S2 ⟨m, w, sb2, ku2, kv2, kw, hw, hm2, g1, g7, g9, g10, g19, gl, gn, gi⟩
              by_cases hlm : m < ops.length
              · obtain ⟨o, ho⟩ : ∃ o, ops[m]? = some o := ⟨_, List.getElem?_eq_getElem hlm⟩
                have hin2 : (0 : Int) ≤ m ∧ (m : Int) < ops.length := by omega
                have hm1 : IntKind.i64.wrap ((m : Int) + 1) = ((m + 1 : Nat) : Int) := wrap64 (by omega) (by omega)
                obtain ⟨bo, ko⟩ := hfine.1 o (List.mem_of_getElem? ho)
                have hstep := puts_take ho
                have hbnd := hput m
                obtain ⟨ok, oh, ov⟩ := o
                cases oh
                · -- drop
                  simp only [Bool.false_eq_true, if_false, if_true, List.append_nil] at hstep
                  simp -implicitDefEqProofs only [go_sem, ↓reduceIte, Nat.reduceEqDiff, Nat.reduceLT, Nat.reduceLeDiff, Nat.reduceAdd, Nat.reduceMul, Nat.reduceSub, reduceCtorEq, Nat.reduceMod, Nat.reduceBEq, Int.reduceBEq, Int.reduceBNe, Int.reduceToNat, hin2, hlm, g10, gl, gn, gi, getD_encOs ho, hm1]
                  refine vnext hJ3 hM3 _ (fun _ _ h => h) ⟨m + 1, w, sb2, ku2, kv2, kw, ?_, hlm, ?_, ?_, ?_, ?_, ?_, ?_, ?_, ?_⟩ ?_
                  · rw [hw, hstep]
                  · simp -implicitDefEqProofs only [go_sem, ↓reduceIte, Nat.reduceEqDiff, Nat.reduceLT, Nat.reduceLeDiff, Nat.reduceAdd, Nat.reduceMul, Nat.reduceSub, reduceCtorEq, Nat.reduceMod, Nat.reduceBEq, Int.reduceBEq, Int.reduceBNe, Int.reduceToNat, g1]
                  · simp -implicitDefEqProofs only [go_sem, ↓reduceIte, Nat.reduceEqDiff, Nat.reduceLT, Nat.reduceLeDiff, Nat.reduceAdd, Nat.reduceMul, Nat.reduceSub, reduceCtorEq, Nat.reduceMod, Nat.reduceBEq, Int.reduceBEq, Int.reduceBNe, Int.reduceToNat, g7]
                  · simp -implicitDefEqProofs only [go_sem, ↓reduceIte, Nat.reduceEqDiff, Nat.reduceLT, Nat.reduceLeDiff, Nat.reduceAdd, Nat.reduceMul, Nat.reduceSub, reduceCtorEq, Nat.reduceMod, Nat.reduceBEq, Int.reduceBEq, Int.reduceBNe, Int.reduceToNat, g9]
                  · simp -implicitDefEqProofs only [go_sem, ↓reduceIte, Nat.reduceEqDiff, Nat.reduceLT, Nat.reduceLeDiff, Nat.reduceAdd, Nat.reduceMul, Nat.reduceSub, reduceCtorEq, Nat.reduceMod, Nat.reduceBEq, Int.reduceBEq, Int.reduceBNe, Int.reduceToNat, g10]
                  · simp -implicitDefEqProofs only [go_sem, ↓reduceIte, Nat.reduceEqDiff, Nat.reduceLT, Nat.reduceLeDiff, Nat.reduceAdd, Nat.reduceMul, Nat.reduceSub, reduceCtorEq, Nat.reduceMod, Nat.reduceBEq, Int.reduceBEq, Int.reduceBNe, Int.reduceToNat, g19]
                  · simp -implicitDefEqProofs only [go_sem, ↓reduceIte, Nat.reduceEqDiff, Nat.reduceLT, Nat.reduceLeDiff, Nat.reduceAdd, Nat.reduceMul, Nat.reduceSub, reduceCtorEq, Nat.reduceMod, Nat.reduceBEq, Int.reduceBEq, Int.reduceBNe, Int.reduceToNat, gl]
                  · simp -implicitDefEqProofs only [go_sem, ↓reduceIte, Nat.reduceEqDiff, Nat.reduceLT, Nat.reduceLeDiff, Nat.reduceAdd, Nat.reduceMul, Nat.reduceSub, reduceCtorEq, Nat.reduceMod, Nat.reduceBEq, Int.reduceBEq, Int.reduceBNe, Int.reduceToNat, gn]
                  · simp -implicitDefEqProofs only [go_sem, ↓reduceIte, Nat.reduceEqDiff, Nat.reduceLT, Nat.reduceLeDiff, Nat.reduceAdd, Nat.reduceMul, Nat.reduceSub, reduceCtorEq, Nat.reduceMod, Nat.reduceBEq, Int.reduceBEq, Int.reduceBNe, Int.reduceToNat]
                  · simp -implicitDefEqProofs only [go_sem, ↓reduceIte, Nat.reduceEqDiff, Nat.reduceLT, Nat.reduceLeDiff, Nat.reduceAdd, Nat.reduceMul, Nat.reduceSub, reduceCtorEq, Nat.reduceMod, Nat.reduceBEq, Int.reduceBEq, Int.reduceBNe, Int.reduceToNat, gi]
                    omega
                · -- put
                  simp only [Bool.false_eq_true, if_false, if_true] at hstep
                  simp -implicitDefEqProofs only [go_sem, ↓reduceIte, Nat.reduceEqDiff, Nat.reduceLT, Nat.reduceLeDiff, Nat.reduceAdd, Nat.reduceMul, Nat.reduceSub, reduceCtorEq, Nat.reduceMod, Nat.reduceBEq, Int.reduceBEq, Int.reduceBNe, Int.reduceToNat, hin2, hlm, g10, gl, gn, gi, getD_encOs ho]
                  refine PCalls.unflag ?_
                  have hone := one_do kw.2.2 bo ko (by rw [hw]; rw [show opDo (opsL L (dels ops ++ puts (ops.take m))) ⟨ok, true, ov⟩ = opsL L (dels ops ++ puts (ops.take (m + 1))) by rw [hstep, ← List.append_assoc, opsL_app L (dels ops ++ puts (ops.take m))]; rfl]; exact hput (m + 1)) 1
                  refine KDo_calls kw (by rw [hw]; omega) 1 [] [⟨ok, true, ov⟩] _ fun w2 kw2 lw2 => ?_
                  rw [hone] at lw2
                  generalize encPl (planF w.list 1 [] [⟨ok, true, ov⟩]) = r
                  simp -implicitDefEqProofs only [go_sem, ↓reduceIte, Nat.reduceEqDiff, Nat.reduceLT, Nat.reduceLeDiff, Nat.reduceAdd, Nat.reduceMul, Nat.reduceSub, reduceCtorEq, Nat.reduceMod, Nat.reduceBEq, Int.reduceBEq, Int.reduceBNe, Int.reduceToNat, gi, hm1]
                  refine vnext hJ3 hM3 _ (fun _ _ h => h) ⟨m + 1, w2, sb2.set hidb' _, ku2.other nb, kv2.other nab, kw2, ?_, hlm, ?_, ?_, ?_, ?_, ?_, ?_, ?_, ?_⟩ ?_
                  · rw [lw2, hw, hstep]; rw [← List.append_assoc, opsL_app L (dels ops ++ puts (ops.take m))]; rfl
                  · simp -implicitDefEqProofs only [go_sem, ↓reduceIte, Nat.reduceEqDiff, Nat.reduceLT, Nat.reduceLeDiff, Nat.reduceAdd, Nat.reduceMul, Nat.reduceSub, reduceCtorEq, Nat.reduceMod, Nat.reduceBEq, Int.reduceBEq, Int.reduceBNe, Int.reduceToNat, g1]
                  · simp -implicitDefEqProofs only [go_sem, ↓reduceIte, Nat.reduceEqDiff, Nat.reduceLT, Nat.reduceLeDiff, Nat.reduceAdd, Nat.reduceMul, Nat.reduceSub, reduceCtorEq, Nat.reduceMod, Nat.reduceBEq, Int.reduceBEq, Int.reduceBNe, Int.reduceToNat, g7]
                  · simp -implicitDefEqProofs only [go_sem, ↓reduceIte, Nat.reduceEqDiff, Nat.reduceLT, Nat.reduceLeDiff, Nat.reduceAdd, Nat.reduceMul, Nat.reduceSub, reduceCtorEq, Nat.reduceMod, Nat.reduceBEq, Int.reduceBEq, Int.reduceBNe, Int.reduceToNat, g9]
                  · simp -implicitDefEqProofs only [go_sem, ↓reduceIte, Nat.reduceEqDiff, Nat.reduceLT, Nat.reduceLeDiff, Nat.reduceAdd, Nat.reduceMul, Nat.reduceSub, reduceCtorEq, Nat.reduceMod, Nat.reduceBEq, Int.reduceBEq, Int.reduceBNe, Int.reduceToNat, g10]
                  · simp -implicitDefEqProofs only [go_sem, ↓reduceIte, Nat.reduceEqDiff, Nat.reduceLT, Nat.reduceLeDiff, Nat.reduceAdd, Nat.reduceMul, Nat.reduceSub, reduceCtorEq, Nat.reduceMod, Nat.reduceBEq, Int.reduceBEq, Int.reduceBNe, Int.reduceToNat, g19]
                  · simp -implicitDefEqProofs only [go_sem, ↓reduceIte, Nat.reduceEqDiff, Nat.reduceLT, Nat.reduceLeDiff, Nat.reduceAdd, Nat.reduceMul, Nat.reduceSub, reduceCtorEq, Nat.reduceMod, Nat.reduceBEq, Int.reduceBEq, Int.reduceBNe, Int.reduceToNat, gl]
                  · simp -implicitDefEqProofs only [go_sem, ↓reduceIte, Nat.reduceEqDiff, Nat.reduceLT, Nat.reduceLeDiff, Nat.reduceAdd, Nat.reduceMul, Nat.reduceSub, reduceCtorEq, Nat.reduceMod, Nat.reduceBEq, Int.reduceBEq, Int.reduceBNe, Int.reduceToNat, gn]
                  · simp -implicitDefEqProofs only [go_sem, ↓reduceIte, Nat.reduceEqDiff, Nat.reduceLT, Nat.reduceLeDiff, Nat.reduceAdd, Nat.reduceMul, Nat.reduceSub, reduceCtorEq, Nat.reduceMod, Nat.reduceBEq, Int.reduceBEq, Int.reduceBNe, Int.reduceToNat]
                  · simp -implicitDefEqProofs only [go_sem, ↓reduceIte, Nat.reduceEqDiff, Nat.reduceLT, Nat.reduceLeDiff, Nat.reduceAdd, Nat.reduceMul, Nat.reduceSub, reduceCtorEq, Nat.reduceMod, Nat.reduceBEq, Int.reduceBEq, Int.reduceBNe, Int.reduceToNat, gi]
                    omega
              · have hcc2 : ¬ (m : Int) < ops.length := by omega
                rw [List.take_of_length_le (by omega)] at hw
                simp -implicitDefEqProofs only [go_sem, ↓reduceIte, Nat.reduceEqDiff, Nat.reduceLT, Nat.reduceLeDiff, Nat.reduceAdd, Nat.reduceMul, Nat.reduceSub, reduceCtorEq, Nat.reduceMod, Nat.reduceBEq, Int.reduceBEq, Int.reduceBNe, Int.reduceToNat, hcc2, gn, gi]
                refine hQ3 _ _ _ ?_
                have hwl : w.list = opsL L ops := by rw [hw]; exact opsL_perm m1 (split_perm ops) (fine_perm (split_perm ops).symm hfine)
                simp -implicitDefEqProofs only [go_sem, ↓reduceIte, Nat.reduceEqDiff, Nat.reduceLT, Nat.reduceLeDiff, Nat.reduceAdd, Nat.reduceMul, Nat.reduceSub, reduceCtorEq, Nat.reduceMod, Nat.reduceBEq, Int.reduceBEq, Int.reduceBNe, Int.reduceToNat, g19, e00, g7]
                refine KAll_spec ku2 (by rw [hu]; omega) _ ?_
                simp -implicitDefEqProofs only [go_sem, ↓reduceIte, Nat.reduceEqDiff, Nat.reduceLT, Nat.reduceLeDiff, Nat.reduceAdd, Nat.reduceMul, Nat.reduceSub, reduceCtorEq, Nat.reduceMod, Nat.reduceBEq, Int.reduceBEq, Int.reduceBNe, Int.reduceToNat, g9]
                refine KAll_spec kv2 (by rw [hv]; omega) _ ?_
                rw [hu, hv]
                simp -implicitDefEqProofs only [go_sem, ↓reduceIte, Nat.reduceEqDiff, Nat.reduceLT, Nat.reduceLeDiff, Nat.reduceAdd, Nat.reduceMul, Nat.reduceSub, reduceCtorEq, Nat.reduceMod, Nat.reduceBEq, Int.reduceBEq, Int.reduceBNe, Int.reduceToNat]
                refine EqualO_refl _ (by have := scanA_len (opsL L ops); omega) _ _ ?_
                simp -implicitDefEqProofs only [go_sem, ↓reduceIte, Nat.reduceEqDiff, Nat.reduceLT, Nat.reduceLeDiff, Nat.reduceAdd, Nat.reduceMul, Nat.reduceSub, reduceCtorEq, Nat.reduceMod, Nat.reduceBEq, Int.reduceBEq, Int.reduceBNe, Int.reduceToNat, g7]
                refine KAll_spec ku2 (by rw [hu]; omega) _ ?_
                simp -implicitDefEqProofs only [go_sem, ↓reduceIte, Nat.reduceEqDiff, Nat.reduceLT, Nat.reduceLeDiff, Nat.reduceAdd, Nat.reduceMul, Nat.reduceSub, reduceCtorEq, Nat.reduceMod, Nat.reduceBEq, Int.reduceBEq, Int.reduceBNe, Int.reduceToNat, g10]
                refine KAll_spec kw (by rw [hwl]; omega) _ ?_
                rw [hu, hwl]
                simp -implicitDefEqProofs only [go_sem, ↓reduceIte, Nat.reduceEqDiff, Nat.reduceLT, Nat.reduceLeDiff, Nat.reduceAdd, Nat.reduceMul, Nat.reduceSub, reduceCtorEq, Nat.reduceMod, Nat.reduceBEq, Int.reduceBEq, Int.reduceBNe, Int.reduceToNat]
                refine EqualO_refl _ (by have := scanA_len (opsL L ops); omega) _ _ ?_
                simp -implicitDefEqProofs only [go_sem, ↓reduceIte, Nat.reduceEqDiff, Nat.reduceLT, Nat.reduceLeDiff, Nat.reduceAdd, Nat.reduceMul, Nat.reduceSub, reduceCtorEq, Nat.reduceMod, Nat.reduceBEq, Int.reduceBEq, Int.reduceBNe, Int.reduceToNat]
                refine awake_spec _ _ ?_
                simp -implicitDefEqProofs only [go_sem, ↓reduceIte, Nat.reduceEqDiff, Nat.reduceLT, Nat.reduceLeDiff, Nat.reduceAdd, Nat.reduceMul, Nat.reduceSub, reduceCtorEq, Nat.reduceMod, Nat.reduceBEq, Int.reduceBEq, Int.reduceBNe, Int.reduceToNat]
                exact ⟨S, sb2, hK⟩
      · have hd0 : ((planF L 1 [] ops).2 != 0) = true := by simp [he]
        by_cases h7 : (planF L 1 [] ops).2 = 7
        · rw [pp (.inr h7)]
          simp -implicitDefEqProofs only [go_sem, ↓reduceIte, Nat.reduceEqDiff, Nat.reduceLT, Nat.reduceLeDiff, Nat.reduceAdd, Nat.reduceMul, Nat.reduceSub, reduceCtorEq, Nat.reduceMod, Nat.reduceBEq, Int.reduceBEq, Int.reduceBNe, Int.reduceToNat, hd0, beq_self_eq_true]
          refine awake_spec _ _ ?_
          simp -implicitDefEqProofs only [go_sem, ↓reduceIte, Nat.reduceEqDiff, Nat.reduceLT, Nat.reduceLeDiff, Nat.reduceAdd, Nat.reduceMul, Nat.reduceSub, reduceCtorEq, Nat.reduceMod, Nat.reduceBEq, Int.reduceBEq, Int.reduceBNe, Int.reduceToNat]
          exact ⟨S, sbv, hK⟩
        · have hd7 : ((planF L 1 [] ops).2 != 7) = true := by simp [h7]
          cases hEF : ((planF L 1 [] ops).2 == (planF L 1 [] mx).2)
          · simp -implicitDefEqProofs only [go_sem, ↓reduceIte, Nat.reduceEqDiff, Nat.reduceLT, Nat.reduceLeDiff, Nat.reduceAdd, Nat.reduceMul, Nat.reduceSub, reduceCtorEq, Nat.reduceMod, Nat.reduceBEq, Int.reduceBEq, Int.reduceBNe, Int.reduceToNat, hd0, hEF, hd7]
            refine awake_spec _ _ ?_
            simp -implicitDefEqProofs only [go_sem, ↓reduceIte, Nat.reduceEqDiff, Nat.reduceLT, Nat.reduceLeDiff, Nat.reduceAdd, Nat.reduceMul, Nat.reduceSub, reduceCtorEq, Nat.reduceMod, Nat.reduceBEq, Int.reduceBEq, Int.reduceBNe, Int.reduceToNat]
            exact ⟨S, sbv, hK⟩
          · simp -implicitDefEqProofs only [go_sem, ↓reduceIte, Nat.reduceEqDiff, Nat.reduceLT, Nat.reduceLeDiff, Nat.reduceAdd, Nat.reduceMul, Nat.reduceSub, reduceCtorEq, Nat.reduceMod, Nat.reduceBEq, Int.reduceBEq, Int.reduceBNe, Int.reduceToNat, hd0, hEF]
            refine awake_spec _ _ ?_
            simp -implicitDefEqProofs only [go_sem, ↓reduceIte, Nat.reduceEqDiff, Nat.reduceLT, Nat.reduceLeDiff, Nat.reduceAdd, Nat.reduceMul, Nat.reduceSub, reduceCtorEq, Nat.reduceMod, Nat.reduceBEq, Int.reduceBEq, Int.reduceBNe, Int.reduceToNat]
            exact ⟨S, sbv, hK⟩
end Go.Proofs.Ytmplfmhcpkmpbaa.V
