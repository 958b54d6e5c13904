/- Views: what befalls a map and views over it. -/
import Derived.Test.YtdioedabjaaboaaGreatXR
set_option linter.unusedVariables false
set_option linter.unusedSimpArgs false
namespace Go.Proofs.YtdioedabjaaboaaGreat.V
open Go Go.VL

theorem lt_empty (a : ByteArray) : lt a ⟨#[]⟩ = false := by
 rw [ltd]
 cases a.data.toList <;> rfl
theorem rangeL_all (L : List Pr) : rangeL ⟨#[]⟩ ⟨#[]⟩ L = L := by
 unfold rangeL
 refine List.filter_eq_self.2 fun p _ => ?_
 unfold inside
 rw [lt_empty, same_refl]
 rfl
theorem planE_mem {L : List Pr} {pos : Int} {ops : List KO} {e : KV} (h : e ∈ planE L pos ops) : ∃ o ∈ ops, e = ⟨pos, o.k, hasQ L o.k, getQ L o.k, o.has, o.v⟩ := by
 unfold planE at h
 obtain ⟨o, ho, he⟩ := List.mem_flatMap.1 h
 refine ⟨o, ho, ?_⟩
 unfold evOf at he
 split at he
 ·cases he
 ·simpa using he
theorem planF_mem {L : List Pr} {pos : Int} {conds ops : List KO} {e : KV} (h : e ∈ (planF L pos conds ops).1) : ∃ o ∈ ops, e = ⟨pos, o.k, hasQ L o.k, getQ L o.k, o.has, o.v⟩ := by
 unfold planF at h
 split at h
 ·split at h
  ·split at h
   ·cases h
   ·exact planE_mem h
  ·cases h
 ·cases h
theorem planF_fit {L : List Pr} (hL : FitK L) {pos : Int} {conds ops : List KO} (hO : FitO ops) : ∀ x ∈ (planF L pos conds ops).1, x.k.size ≤ 1000000 ∧ x.old.size ≤ 1000000 ∧ x.now.size ≤ 1000000 := by
 intro x hx
 obtain ⟨o, ho, rfl⟩ := planF_mem hx
 refine ⟨(hO o ho).1, ?_, (hO o ho).2⟩
 dsimp only
 unfold getQ
 cases hl : look o.k L with
 | none => exact (by decide : (0 : Nat) ≤ 1000000)
 | some v => exact (hL _ (look_some hl)).2
/-- A map and views over it. -/
structure Ps (S : Store) (mid vid : Nat) (L : List Pr) (T : WT) (t : V.T) : Prop where
 km : Km S mid t
 list : t.list = L
 vs : Vs S vid T L
 fit : FitK L
 len : L.length ≤ 400000
 few : T.length ≤ 1000000
theorem Ps.ne {S : Store} {mid vid : Nat} {L : List Pr} {T : WT} {t : V.T} (h : Ps S mid vid L T t) : mid ≠ vid := fun he => by
 have h1 := h.km.at
 rw [he, h.vs.at_] at h1
 injection h1 with h1
 injection h1 with h1
 cases h1
def encPair (mid vid : Nat) : PV := .agg [.ref mid 0, .ref vid 0]
def opV (x : Int) : Int := IntKind.i64.wrap ((IntKind.u64.wrap x).tmod 8)
theorem remV8 (a : Int) : pbin .rem (.int .u64 a) (.int .u64 8) = some (.int .u64 (a.tmod 8)) := by
 unfold pbin
 dsimp only
 rw [if_pos ⟨rfl, by decide⟩]
theorem does_add {S : Store} {mid vid : Nat} {L : List Pr} {T : WT} {t : V.T} (h : Ps S mid vid L T t) (d : DV) (hd : opV d.op = 4) (K : PV → Store → Prop)
  (hbad : ∀ S', Sub' S S' → addE d.view T L ≠ 0 → K (.int .i64 (addE d.view T L)) S')
  (hok : ∀ S' gid, (∀ id x, id ≠ vid → S id = some x → S' id = some x) → addE d.view T L = 0 → Vs S' vid (T ++ [(d.view, gid)]) L → K (.int .i64 0) S') :
  PCalls Tryz.prog 23 [encPair mid vid, .agg (encDv d)] S K := by
 have hkm := h.km
 have hl := h.list
 refine pcalls_of (C := C) (fun _ => false) (fun _ => false) Tryz.func23 rfl rfl (by simp [Tryz.f23]) ?_
 unfold encPair encDv
 unfold opV at hd
 simp -implicitDefEqProofs only [go_sem, ↓reduceIte, Nat.reduceEqDiff, Nat.reduceLT, Nat.reduceLeDiff, Nat.reduceAdd, Nat.reduceMul, Nat.reduceSub, reduceCtorEq, Nat.reduceMod, Nat.reduceBEq, Int.reduceBEq, Int.reduceBNe, Int.reduceToNat, Tryz.f23, remV8, hd]
 refine vwp_tail 7 (by decide +kernel) (by decide +kernel) ?_
 dsimp only [List.take, List.drop]
 simp -implicitDefEqProofs only [go_sem, ↓reduceIte, Nat.reduceEqDiff, Nat.reduceLT, Nat.reduceLeDiff, Nat.reduceAdd, Nat.reduceMul, Nat.reduceSub, reduceCtorEq, Nat.reduceMod, Nat.reduceBEq, Int.reduceBEq, Int.reduceBNe, Int.reduceToNat]
 refine q_call _ (by simp -implicitDefEqProofs only [go_sem, ↓reduceIte, Nat.reduceEqDiff]; exact KScan_spec hkm (by rw [hl]; have := h.len; omega) _ _) (by decide) rfl ?_
 rw [hl, rangeL_all]
 simp -implicitDefEqProofs only [go_sem, ↓reduceIte, Nat.reduceEqDiff, Nat.reduceLT, Nat.reduceLeDiff, Nat.reduceAdd, Nat.reduceMul, Nat.reduceSub, reduceCtorEq, Nat.reduceMod, Nat.reduceBEq, Int.reduceBEq, Int.reduceBNe, Int.reduceToNat]
 refine VAdd_calls h.vs h.few d.view (by have := h.len; omega) h.fit (sorted_nodup (hl ▸ hkm.2.2)) _ ?_ ?_
 ·intro S' h1 h2
  simp -implicitDefEqProofs only [go_sem, ↓reduceIte, Nat.reduceEqDiff, Nat.reduceLT, Nat.reduceLeDiff, Nat.reduceAdd, Nat.reduceMul, Nat.reduceSub, reduceCtorEq, Nat.reduceMod, Nat.reduceBEq, Int.reduceBEq, Int.reduceBNe, Int.reduceToNat]
  exact ⟨S', fun _ _ h => h, hbad S' h1 h2⟩
 ·intro S' gid h1 h2 h3
  simp -implicitDefEqProofs only [go_sem, ↓reduceIte, Nat.reduceEqDiff, Nat.reduceLT, Nat.reduceLeDiff, Nat.reduceAdd, Nat.reduceMul, Nat.reduceSub, reduceCtorEq, Nat.reduceMod, Nat.reduceBEq, Int.reduceBEq, Int.reduceBNe, Int.reduceToNat]
  exact ⟨S', fun _ _ h => h, hok S' gid h1 h2 h3⟩
/-- Operations befall a map and views over it. -/
theorem does_ops {S : Store} {mid vid : Nat} {L : List Pr} {T : WT} {t : V.T} (h : Ps S mid vid L T t) (d : DV) (hd : opV d.op < 4) (hO : FitO d.ops) (K : PV → Store → Prop)
  (hbad : (planF L 1 [] d.ops).2 ≠ 0 → K (.int .i64 (planF L 1 [] d.ops).2) S)
  (hover : (planF L 1 [] d.ops).2 = 0 → takeE T (doF L 1 [] d.ops) = 72 → ∀ S', Sub' S S' → K (.int .i64 72) S')
  (hok : (planF L 1 [] d.ops).2 = 0 → takeE T (doF L 1 [] d.ops) = 0 → ∀ S' N t', (∀ id x, id ≠ vid → id ≠ mid → S id = some x → S' id = some x) → N.map Prod.fst = T.map Prod.fst → Km S' mid t' → t'.list = doF L 1 [] d.ops → Vs S' vid N (doF L 1 [] d.ops) → K (.int .i64 0) S') :
  PCalls Tryz.prog 23 [encPair mid vid, .agg (encDv d)] S K := by
 have hkm := h.km
 have hl := h.list
 have hlen := h.len
 have hs : Sorted L := hl ▸ hkm.2.2
 unfold opV at hd
 refine pcalls_of (C := C) (fun _ => false) (fun _ => false) Tryz.func23 rfl rfl (by simp [Tryz.f23]) ?_
 unfold encPair encDv
 have d4 : (IntKind.i64.wrap ((IntKind.u64.wrap d.op).tmod 8) == 4) = false := beq_eq_false_iff_ne.2 (by omega)
 have d5 : (IntKind.i64.wrap ((IntKind.u64.wrap d.op).tmod 8) == 5) = false := beq_eq_false_iff_ne.2 (by omega)
 have d6 : (IntKind.i64.wrap ((IntKind.u64.wrap d.op).tmod 8) == 6) = false := beq_eq_false_iff_ne.2 (by omega)
 have d7 : (IntKind.i64.wrap ((IntKind.u64.wrap d.op).tmod 8) == 7) = false := beq_eq_false_iff_ne.2 (by omega)
 simp -implicitDefEqProofs only [go_sem, ↓reduceIte, Nat.reduceEqDiff, Nat.reduceLT, Nat.reduceLeDiff, Nat.reduceAdd, Nat.reduceMul, Nat.reduceSub, reduceCtorEq, Nat.reduceMod, Nat.reduceBEq, Int.reduceBEq, Int.reduceBNe, Int.reduceToNat, Tryz.f23, remV8, d4, d5, d6, d7]
 refine PCalls.unflag (KPlan_spec hkm (by rw [hl]; omega) 1 [] d.ops _ ?_)
 rw [hl]
 have hdo := doF_take L 1 [] d.ops
 have htold := planF_told hs 1 [] d.ops
 have hfit := planF_fit h.fit (pos := 1) (conds := []) hO
 have hpl := planF_len L 1 [] d.ops
 rw [hdo] at hover hok
 obtain ⟨E, c, hE⟩ : ∃ E c, planF L 1 [] d.ops = (E, c) := ⟨_, _, rfl⟩
 rw [hE] at hbad hover hok htold hfit hpl ⊢
 unfold encPl
 dsimp only at hbad hover hok htold hfit hpl ⊢
 by_cases hc : c = 0
 ·have c0 : (c != 0) = false := by rw [hc]; rfl
  simp -implicitDefEqProofs only [go_sem, ↓reduceIte, Nat.reduceEqDiff, Nat.reduceLT, Nat.reduceLeDiff, Nat.reduceAdd, Nat.reduceMul, Nat.reduceSub, reduceCtorEq, Nat.reduceMod, Nat.reduceBEq, Int.reduceBEq, Int.reduceBNe, Int.reduceToNat, c0, Bool.false_eq_true]
  have hch := chain_of hs htold (fun x hx => ⟨(hfit x hx).2.1, (hfit x hx).2.2⟩)
  have hvs : Vs S vid T (takeF L (E.take 0)) := h.vs
  have hall : E.take E.length = E := List.take_length
  refine VTake_calls E (by omega) hch hvs h.few _ ?_ ?_
  ·intro S' h1 h2
   rw [hall] at h2
   have n72 : ((72 : Int) != 0) = true := rfl
   simp -implicitDefEqProofs only [go_sem, ↓reduceIte, Nat.reduceEqDiff, Nat.reduceLT, Nat.reduceLeDiff, Nat.reduceAdd, Nat.reduceMul, Nat.reduceSub, reduceCtorEq, Nat.reduceMod, Nat.reduceBEq, Int.reduceBEq, Int.reduceBNe, Int.reduceToNat, n72]
   exact ⟨S', fun _ _ h => h, hover hc h2 S' h1⟩
  ·intro S' N h1 h2 h3 h4
   rw [hall] at h2 h4
   have hkm' : Km S' mid t := ⟨h1 _ _ h.ne hkm.1, hkm.2⟩
   simp -implicitDefEqProofs only [go_sem, ↓reduceIte, Nat.reduceEqDiff, Nat.reduceLT, Nat.reduceLeDiff, Nat.reduceAdd, Nat.reduceMul, Nat.reduceSub, reduceCtorEq, Nat.reduceMod, Nat.reduceBEq, Int.reduceBEq, Int.reduceBNe, Int.reduceToNat, n0, Bool.false_eq_true]
   refine KTake_calls hkm' E (by rw [hl]; omega) _ ?_
   intro q hq hql
   rw [hl] at hql
   simp -implicitDefEqProofs only [go_sem, ↓reduceIte, Nat.reduceEqDiff, Nat.reduceLT, Nat.reduceLeDiff, Nat.reduceAdd, Nat.reduceMul, Nat.reduceSub, reduceCtorEq, Nat.reduceMod, Nat.reduceBEq, Int.reduceBEq, Int.reduceBNe, Int.reduceToNat]
   refine ⟨_, fun _ _ h => h, hok hc h2 _ N q ?_ h3 ?_ hql ?_⟩
   ·intro id x n1 n2 hx
    rw [Go.VL.set_ne n2]
    exact h1 id x n1 hx
   ·exact Km.mk _ _ hq (by rw [hql]; exact (takeF_ok E L hs).1)
   ·refine ⟨by rw [Go.VL.set_ne (Ne.symm h.ne)]; exact h4.at_, fun u hu => ?_⟩
    obtain ⟨kd, hkd⟩ := h4.tabs u hu
    refine ⟨kd, hkd.keepM fun id cl st vs hx => ?_⟩
    rw [Go.VL.set_ne (fun he => ?_)]
    ·exact hx
    ·rw [he, hkm'.1] at hx
     injection hx with hx
     injection hx with hx
     cases hx
 ·have c0 : (c != 0) = true := by simp [hc]
  simp -implicitDefEqProofs only [go_sem, ↓reduceIte, Nat.reduceEqDiff, Nat.reduceLT, Nat.reduceLeDiff, Nat.reduceAdd, Nat.reduceMul, Nat.reduceSub, reduceCtorEq, Nat.reduceMod, Nat.reduceBEq, Int.reduceBEq, Int.reduceBNe, Int.reduceToNat, c0]
  exact ⟨S, fun _ _ h => h, hbad hc⟩
theorem VAdd_there {S : Store} {vid : Nat} {T : WT} {P : List Pr} (h : Vs S vid T P) (hT : T.length ≤ 1000000) (w : Wv) (h0 : vcheck w = 0) (h1 : 0 ≤ whereF w.name T 0) (rows : List (List PV)) :
  PRet Tryz.prog 58 [.ref vid 0, .agg (encW w), .sl .no 3 rows] S (.int .i64 70) := by
 intro K hK
 refine pcalls_of (C := C) (fun _ => false) (fun _ => false) Tryz.func58 rfl rfl (by simp [Tryz.f58]) ?_
 unfold encW
 simp -implicitDefEqProofs only [go_sem, ↓reduceIte, Nat.reduceEqDiff, Nat.reduceLT, Nat.reduceLeDiff, Nat.reduceAdd, Nat.reduceMul, Nat.reduceSub, reduceCtorEq, Nat.reduceMod, Nat.reduceBEq, Int.reduceBEq, Int.reduceBNe, Int.reduceToNat, Tryz.f58]
 refine dead_spec h _ ?_
 simp -implicitDefEqProofs only [go_sem, ↓reduceIte, Nat.reduceEqDiff, Nat.reduceLT, Nat.reduceLeDiff, Nat.reduceAdd, Nat.reduceMul, Nat.reduceSub, reduceCtorEq, Nat.reduceMod, Nat.reduceBEq, Int.reduceBEq, Int.reduceBNe, Int.reduceToNat, Bool.false_eq_true]
 refine VCheck_spec w _ _ ?_
 have d0 : (vcheck w != 0) = false := by rw [h0]; rfl
 simp -implicitDefEqProofs only [go_sem, ↓reduceIte, Nat.reduceEqDiff, Nat.reduceLT, Nat.reduceLeDiff, Nat.reduceAdd, Nat.reduceMul, Nat.reduceSub, reduceCtorEq, Nat.reduceMod, Nat.reduceBEq, Int.reduceBEq, Int.reduceBNe, Int.reduceToNat, d0, Bool.false_eq_true]
 refine VFind_spec h hT w.name _ ?_
 simp -implicitDefEqProofs only [go_sem, ↓reduceIte, Nat.reduceEqDiff, Nat.reduceLT, Nat.reduceLeDiff, Nat.reduceAdd, Nat.reduceMul, Nat.reduceSub, reduceCtorEq, Nat.reduceMod, Nat.reduceBEq, Int.reduceBEq, Int.reduceBNe, Int.reduceToNat, h1]
 exact ⟨S, fun _ _ h => h, hK⟩
theorem does_there {S : Store} {mid vid : Nat} {L : List Pr} {T : WT} {t : V.T} (h : Ps S mid vid L T t) (d : DV) (hd : opV d.op = 4) (h0 : vcheck d.view = 0) (h1 : 0 ≤ whereF d.view.name T 0) :
  PRet Tryz.prog 23 [encPair mid vid, .agg (encDv d)] S (.int .i64 70) := by
 intro K hK
 have hkm := h.km
 have hl := h.list
 refine pcalls_of (C := C) (fun _ => false) (fun _ => false) Tryz.func23 rfl rfl (by simp [Tryz.f23]) ?_
 unfold encPair encDv
 unfold opV at hd
 simp -implicitDefEqProofs only [go_sem, ↓reduceIte, Nat.reduceEqDiff, Nat.reduceLT, Nat.reduceLeDiff, Nat.reduceAdd, Nat.reduceMul, Nat.reduceSub, reduceCtorEq, Nat.reduceMod, Nat.reduceBEq, Int.reduceBEq, Int.reduceBNe, Int.reduceToNat, Tryz.f23, remV8, hd]
 refine vwp_tail 7 (by decide +kernel) (by decide +kernel) ?_
 dsimp only [List.take, List.drop]
 simp -implicitDefEqProofs only [go_sem, ↓reduceIte, Nat.reduceEqDiff, Nat.reduceLT, Nat.reduceLeDiff, Nat.reduceAdd, Nat.reduceMul, Nat.reduceSub, reduceCtorEq, Nat.reduceMod, Nat.reduceBEq, Int.reduceBEq, Int.reduceBNe, Int.reduceToNat]
 refine q_call _ (by simp -implicitDefEqProofs only [go_sem, ↓reduceIte, Nat.reduceEqDiff]; exact KScan_spec hkm (by rw [hl]; have := h.len; omega) _ _) (by decide) rfl ?_
 simp -implicitDefEqProofs only [go_sem, ↓reduceIte, Nat.reduceEqDiff, Nat.reduceLT, Nat.reduceLeDiff, Nat.reduceAdd, Nat.reduceMul, Nat.reduceSub, reduceCtorEq, Nat.reduceMod, Nat.reduceBEq, Int.reduceBEq, Int.reduceBNe, Int.reduceToNat]
 refine VAdd_there h.vs h.few d.view h0 h1 _ _ ?_
 simp -implicitDefEqProofs only [go_sem, ↓reduceIte, Nat.reduceEqDiff, Nat.reduceLT, Nat.reduceLeDiff, Nat.reduceAdd, Nat.reduceMul, Nat.reduceSub, reduceCtorEq, Nat.reduceMod, Nat.reduceBEq, Int.reduceBEq, Int.reduceBNe, Int.reduceToNat]
 exact ⟨S, fun _ _ h => h, hK⟩
end Go.Proofs.YtdioedabjaaboaaGreat.V
