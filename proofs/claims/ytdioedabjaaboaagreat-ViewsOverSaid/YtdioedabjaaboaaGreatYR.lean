/- Views: what befalls a map and views over it, whatever it is. -/
import Derived.Test.YtdioedabjaaboaaGreatYQ
set_option linter.unusedVariables false
set_option linter.unusedSimpArgs false
namespace Go.Proofs.YtdioedabjaaboaaGreat.V
open Go Go.VL

theorem opV_range (x : Int) : 0 ≤ opV x ∧ opV x < 8 := by
 unfold opV
 have h0 : 0 ≤ IntKind.u64.wrap x := by
  simp only [IntKind.wrap, IntKind.signed, IntKind.bits, Bool.false_eq_true, if_false]
  exact Int.emod_nonneg _ (by decide)
 have h1 := Int.tmod_nonneg 8 h0
 have h2 := Int.tmod_lt_of_pos (IntKind.u64.wrap x) (show (0 : Int) < 8 by decide)
 obtain ⟨k, hk⟩ : ∃ k : Nat, (IntKind.u64.wrap x).tmod 8 = (k : Int) := ⟨((IntKind.u64.wrap x).tmod 8).toNat, by omega⟩
 rw [hk] at h1 h2 ⊢
 rw [wrap64 (by omega) (by omega)]
 omega
/-- What a step answers, and what views and pairs there are then. -/
def opsEW (ws : List Wv) (L : List Pr) (ops : List KO) : Int := if (planF L 1 [] ops).2 ≠ 0 then (planF L 1 [] ops).2 else takeW ws (doF L 1 [] ops)
theorem opsE_W (T : WT) (L : List Pr) (ops : List KO) : opsE T L ops = opsEW (T.map Prod.fst) L ops := by
 unfold opsE opsEW
 rw [takeE_W]
def stepE (ws : List Wv) (L : List Pr) (d : DV) : Int :=
 if opV d.op < 4 then opsEW ws L d.ops else if opV d.op < 6 then addW d.view ws L else if opV d.op = 6 then dropW d.view.name ws else addW d.view [] L
def stepW (ws : List Wv) (L : List Pr) (d : DV) : List Wv :=
 if opV d.op < 4 then ws else if opV d.op < 6 then (if addW d.view ws L = 0 then ws ++ [d.view] else ws) else if opV d.op = 6 then lessW d.view.name ws else (if addW d.view [] L = 0 then [d.view] else ws)
def stepL (ws : List Wv) (L : List Pr) (d : DV) : List Pr :=
 if opV d.op < 4 then (if opsEW ws L d.ops = 0 then doF L 1 [] d.ops else L) else L
theorem stepL_len {ws : List Wv} {L : List Pr} (hs : Sorted L) (d : DV) : (stepL ws L d).length ≤ L.length + 6 := by
 unfold stepL
 split
 ·split
  ·exact (doF_ok hs 1 [] d.ops).2
  ·omega
 ·omega
theorem addW_ok {w : Wv} {ws : List Wv} {L : List Pr} (h : addW w ws L = 0) : vcheck w = 0 ∧ whereW w.name ws 0 < 0 ∧ ws.length < 4 ∧ fitsQ w L = true := by
 unfold addW at h
 split at h
 ·rename_i h0
  split at h
  ·rename_i h1
   split at h
   ·rename_i h2
    split at h
    ·rename_i hf; exact ⟨h0, h1, by omega, hf⟩
    ·cases h
   ·cases h
  ·cases h
 ·rename_i h0; exact absurd h h0
theorem stepW_len {ws : List Wv} (h : ws.length ≤ 4) (L : List Pr) (d : DV) : (stepW ws L d).length ≤ 4 := by
 unfold stepW
 split
 ·exact h
 ·split
  ·split
   ·rename_i h1
    have := (addW_ok h1).2.2.1
    rw [List.length_append, List.length_cons, List.length_nil]
    omega
   ·exact h
  ·split
   ·unfold lessW
    split
    ·exact h
    ·exact Nat.le_trans (List.length_eraseIdx_le _ _) h
   ·split
    ·exact (by decide : 1 ≤ 4)
    ·exact h
theorem whereW_none {n : ByteArray} : ∀ {ws : List Wv} {i : Nat}, whereW n ws i < 0 → ∀ w ∈ ws, w.name ≠ n
 | [], _, _, w, hw => by cases hw
 | v :: ws, i, h, w, hw => by
  unfold whereW at h
  split at h
  ·omega
  ·rename_i hs
   rcases List.mem_cons.1 hw with rfl | hw
   ·rintro rfl
    exact hs (same_refl _)
   ·exact whereW_none h w hw
theorem GoodW.step {ws : List Wv} {L : List Pr} (h : GoodW ws L) (d : DV) (hd : FitW d.view) : GoodW (stepW ws L d) (stepL ws L d) := by
 unfold stepW stepL
 by_cases h4 : opV d.op < 4
 ·rw [if_pos h4, if_pos h4]
  split
  ·rename_i hz
   unfold opsEW at hz
   split at hz
   ·rename_i hne; exact absurd hz hne
   ·unfold takeW at hz
    split at hz
    ·rename_i hall
     rw [List.all_eq_true] at hall
     exact ⟨fun w hw => ⟨(h.ok w hw).1, hall w hw, (h.ok w hw).2.2⟩, h.nd⟩
    ·cases hz
  ·exact h
 ·rw [if_neg h4, if_neg h4]
  split
  ·split
   ·rename_i hz
    obtain ⟨a1, a2, a3, a4⟩ := addW_ok hz
    refine ⟨fun w hw => ?_, ?_⟩
    ·rcases List.mem_append.1 hw with hw | hw
     ·exact h.ok w hw
     ·rw [List.mem_singleton] at hw
      subst hw
      exact ⟨a1, a4, hd⟩
    ·rw [List.map_append, List.nodup_append]
     refine ⟨h.nd, by simp, fun a ha b hb => ?_⟩
     simp only [List.map_cons, List.map_nil, List.mem_singleton] at hb
     subst hb
     obtain ⟨w, hw, rfl⟩ := List.mem_map.1 ha
     exact whereW_none a2 w hw
   ·exact h
  ·split
   ·unfold lessW
    split
    ·exact h
    ·exact ⟨fun w hw => h.ok w (List.mem_of_mem_eraseIdx hw), ((List.eraseIdx_sublist _ _).map Wv.name).nodup h.nd⟩
   ·split
    ·rename_i hz
     obtain ⟨a1, a2, a3, a4⟩ := addW_ok hz
     refine ⟨fun w hw => ?_, by simp⟩
     rw [List.mem_singleton] at hw
     subst hw
     exact ⟨a1, a4, hd⟩
    ·exact h
theorem map_erase (T : WT) (n : ByteArray) : (if whereF n T 0 < 0 then T else T.eraseIdx (whereF n T 0).toNat).map Prod.fst = lessW n (T.map Prod.fst) := by
 unfold lessW
 rw [← whereF_W]
 split
 ·rfl
 ·rw [List.eraseIdx_eq_take_drop_succ, List.eraseIdx_eq_take_drop_succ, List.map_append, List.map_take, List.map_drop]
theorem erase_len (T : WT) (n : ByteArray) : (if whereF n T 0 < 0 then T else T.eraseIdx (whereF n T 0).toNat).length ≤ T.length := by
 split
 ·exact Nat.le_refl _
 ·exact List.length_eraseIdx_le _ _
set_option maxHeartbeats 2000000 in
theorem does_all {S : Store} {mid vid : Nat} {L : List Pr} {T : WT} {t : V.T} (h : Ps S mid vid L T t) (hT4 : T.length ≤ 4) (d : DV) (hO : FitO d.ops) (hlen : L.length + 6 ≤ 400000) (K : PV → Store → Prop)
  (hK : ∀ S' N t', (∀ id x, id ≠ vid → id ≠ mid → S id = some x → S' id = some x) → N.map Prod.fst = stepW (T.map Prod.fst) L d → Ps S' mid vid (stepL (T.map Prod.fst) L d) N t' → K (.int .i64 (stepE (T.map Prod.fst) L d)) S') :
  PCalls Tryz.prog 23 [encPair mid vid, .agg (encDv d)] S K := by
 have hr := opV_range d.op
 unfold stepE stepW stepL at hK
 have hli := h.list
 have hkm := h.km
 have hL : L.length ≤ 1000000 := by omega
 have hnd : (L.map Prod.fst).Nodup := sorted_nodup (hli ▸ hkm.2.2)
 by_cases h4 : opV d.op < 4
 ·rw [if_pos h4, if_pos h4, if_pos h4] at hK
  refine does_opsU h d h4 hO hlen K ?_
  intro S' N t' h1 h2 h3
  rw [opsE_W]
  unfold opsM at h3
  rw [opsE_W] at h3
  exact hK S' N t' h1 h2 h3
 ·rw [if_neg h4, if_neg h4, if_neg h4] at hK
  by_cases h6 : opV d.op < 6
  ·rw [if_pos h6, if_pos h6] at hK
   have hadd : (∀ S', Sub' S S' → addE d.view T L ≠ 0 → K (.int .i64 (addE d.view T L)) S') ∧ (∀ S' gid, (∀ id x, id ≠ vid → S id = some x → S' id = some x) → addE d.view T L = 0 → Vs S' vid (T ++ [(d.view, gid)]) L → K (.int .i64 0) S') := by
    rw [addE_W]
    constructor
    ·intro S' h1 h2
     rw [if_neg h2] at hK
     exact hK S' T t (fun id x _ _ hx => h1 id x hx) rfl ⟨⟨h1 _ _ hkm.1, hkm.2⟩, hli, h.vs.keep h1, h.fit, h.len, h.few⟩
    ·intro S' gid h1 h2 h3
     rw [if_pos h2, h2] at hK
     refine hK S' (T ++ [(d.view, gid)]) t (fun id x hx _ he => h1 id x hx he) (by rw [List.map_append]; rfl) ⟨⟨h1 _ _ h.ne hkm.1, hkm.2⟩, hli, h3, h.fit, h.len, ?_⟩
     rw [List.length_append, List.length_cons, List.length_nil]
     omega
   by_cases h5 : opV d.op = 4
   ·exact does_add h d h5 K hadd.1 hadd.2
   ·have hd : opV d.op = 5 := by omega
    refine pcalls_of (C := C) (fun _ => false) (fun _ => false) Tryz.func23 rfl rfl (by simp [Tryz.f23]) ?_
    unfold encPair encDv
    unfold opV at hd
    have e5 : ((5 : Int) == 4) = false := rfl
    simp -implicitDefEqProofs only [go_sem, ↓reduceIte, Nat.reduceEqDiff, Nat.reduceLT, Nat.reduceLeDiff, Nat.reduceAdd, Nat.reduceMul, Nat.reduceSub, reduceCtorEq, Nat.reduceMod, Nat.reduceBEq, Int.reduceBEq, Int.reduceBNe, Int.reduceToNat, Tryz.f23, remV8, hd, e5]
    refine vwp_tail 7 (by decide +kernel) (by decide +kernel) ?_
    dsimp only [List.take, List.drop]
    simp -implicitDefEqProofs only [go_sem, ↓reduceIte, Nat.reduceEqDiff, Nat.reduceLT, Nat.reduceLeDiff, Nat.reduceAdd, Nat.reduceMul, Nat.reduceSub, reduceCtorEq, Nat.reduceMod, Nat.reduceBEq, Int.reduceBEq, Int.reduceBNe, Int.reduceToNat]
    refine q_call _ (by simp -implicitDefEqProofs only [go_sem, ↓reduceIte, Nat.reduceEqDiff]; exact KScan_spec hkm (by rw [hli]; exact hL) _ _) (by decide) rfl ?_
    rw [hli, rangeL_all]
    simp -implicitDefEqProofs only [go_sem, ↓reduceIte, Nat.reduceEqDiff, Nat.reduceLT, Nat.reduceLeDiff, Nat.reduceAdd, Nat.reduceMul, Nat.reduceSub, reduceCtorEq, Nat.reduceMod, Nat.reduceBEq, Int.reduceBEq, Int.reduceBNe, Int.reduceToNat]
    refine VAdd_calls h.vs h.few d.view hL h.fit hnd _ ?_ ?_
    ·intro S' h1 h2
     simp -implicitDefEqProofs only [go_sem, ↓reduceIte, Nat.reduceEqDiff, Nat.reduceLT, Nat.reduceLeDiff, Nat.reduceAdd, Nat.reduceMul, Nat.reduceSub, reduceCtorEq, Nat.reduceMod, Nat.reduceBEq, Int.reduceBEq, Int.reduceBNe, Int.reduceToNat]
     exact ⟨S', fun _ _ h => h, hadd.1 S' h1 h2⟩
    ·intro S' gid h1 h2 h3
     simp -implicitDefEqProofs only [go_sem, ↓reduceIte, Nat.reduceEqDiff, Nat.reduceLT, Nat.reduceLeDiff, Nat.reduceAdd, Nat.reduceMul, Nat.reduceSub, reduceCtorEq, Nat.reduceMod, Nat.reduceBEq, Int.reduceBEq, Int.reduceBNe, Int.reduceToNat]
     exact ⟨S', fun _ _ h => h, hadd.2 S' gid h1 h2 h3⟩
  ·rw [if_neg h6, if_neg h6] at hK
   by_cases h7 : opV d.op = 6
   ·rw [if_pos h7, if_pos h7] at hK
    have hd := h7
    refine pcalls_of (C := C) (fun _ => false) (fun _ => false) Tryz.func23 rfl rfl (by simp [Tryz.f23]) ?_
    unfold encPair encDv
    unfold opV at hd
    have e64 : ((6 : Int) == 4) = false := rfl
    have e65 : ((6 : Int) == 5) = false := rfl
    simp -implicitDefEqProofs only [go_sem, ↓reduceIte, Nat.reduceEqDiff, Nat.reduceLT, Nat.reduceLeDiff, Nat.reduceAdd, Nat.reduceMul, Nat.reduceSub, reduceCtorEq, Nat.reduceMod, Nat.reduceBEq, Int.reduceBEq, Int.reduceBNe, Int.reduceToNat, Tryz.f23, remV8, hd, e64, e65]
    refine VDrop_calls h.vs h.few d.view.name _ ?_
    intro S' h1 h2
    simp -implicitDefEqProofs only [go_sem, ↓reduceIte, Nat.reduceEqDiff, Nat.reduceLT, Nat.reduceLeDiff, Nat.reduceAdd, Nat.reduceMul, Nat.reduceSub, reduceCtorEq, Nat.reduceMod, Nat.reduceBEq, Int.reduceBEq, Int.reduceBNe, Int.reduceToNat]
    refine ⟨S', fun _ _ h => h, hK S' _ t (fun id x hx _ he => h1 id x hx he) (map_erase T _) ⟨⟨h1 _ _ h.ne hkm.1, hkm.2⟩, hli, h2, h.fit, h.len, ?_⟩⟩
    exact Nat.le_trans (erase_len T _) h.few
   ·rw [if_neg h7, if_neg h7] at hK
    have hd : opV d.op = 7 := by omega
    refine pcalls_of (C := C) (fun _ => false) (fun _ => false) Tryz.func23 rfl rfl (by simp [Tryz.f23]) ?_
    unfold encPair encDv
    unfold opV at hd
    have e74 : ((7 : Int) == 4) = false := rfl
    have e75 : ((7 : Int) == 5) = false := rfl
    have e76 : ((7 : Int) == 6) = false := rfl
    simp -implicitDefEqProofs only [go_sem, ↓reduceIte, Nat.reduceEqDiff, Nat.reduceLT, Nat.reduceLeDiff, Nat.reduceAdd, Nat.reduceMul, Nat.reduceSub, reduceCtorEq, Nat.reduceMod, Nat.reduceBEq, Int.reduceBEq, Int.reduceBNe, Int.reduceToNat, Tryz.f23, remV8, hd, e74, e75, e76]
    refine vwp_tail 8 (by decide +kernel) (by decide +kernel) ?_
    dsimp only [List.take, List.drop]
    simp -implicitDefEqProofs only [go_sem, ↓reduceIte, Nat.reduceEqDiff, Nat.reduceLT, Nat.reduceLeDiff, Nat.reduceAdd, Nat.reduceMul, Nat.reduceSub, reduceCtorEq, Nat.reduceMod, Nat.reduceBEq, Int.reduceBEq, Int.reduceBNe, Int.reduceToNat]
    refine q_call _ (by simp -implicitDefEqProofs only [go_sem, ↓reduceIte, Nat.reduceEqDiff]; exact KScan_spec hkm (by rw [hli]; exact hL) _ _) (by decide) rfl ?_
    rw [hli, rangeL_all]
    have hone : [[PV.str d.view.name, PV.int .i64 d.view.kind, PV.str d.view.field, PV.str d.view.of_]] = encWs [d.view] := rfl
    simp -implicitDefEqProofs only [go_sem, ↓reduceIte, Nat.reduceEqDiff, Nat.reduceLT, Nat.reduceLeDiff, Nat.reduceAdd, Nat.reduceMul, Nat.reduceSub, reduceCtorEq, Nat.reduceMod, Nat.reduceBEq, Int.reduceBEq, Int.reduceBNe, Int.reduceToNat, hone]
    refine VSet_calls h.vs d.view hL h.fit hnd _ ?_
    intro S' N h1 h2 h3
    simp -implicitDefEqProofs only [go_sem, ↓reduceIte, Nat.reduceEqDiff, Nat.reduceLT, Nat.reduceLeDiff, Nat.reduceAdd, Nat.reduceMul, Nat.reduceSub, reduceCtorEq, Nat.reduceMod, Nat.reduceBEq, Int.reduceBEq, Int.reduceBNe, Int.reduceToNat]
    refine ⟨S', fun _ _ h => h, hK S' N t (fun id x hx _ he => h1 id x hx he) h2 ⟨⟨h1 _ _ h.ne hkm.1, hkm.2⟩, hli, h3, h.fit, h.len, ?_⟩⟩
    have hl := congrArg List.length h2
    rw [List.length_map] at hl
    split at hl
    ·rw [hl]; exact (by decide : 1 ≤ 1000000)
    ·rw [hl, List.length_map]; exact h.few
theorem Ps.keep {S S' : Store} {mid vid : Nat} {L : List Pr} {T : WT} {t : V.T} (h : Ps S mid vid L T t) (hs : Sub' S S') : Ps S' mid vid L T t :=
 ⟨⟨hs _ _ h.km.1, h.km.2⟩, h.list, h.vs.keep hs, h.fit, h.len, h.few⟩
theorem Rv.no {S : Store} {xid : Nat} {ws : List Wv} (h : Rv S xid ws) : ∀ cl st vs, S xid ≠ some [PV.mcon cl st vs] := fun cl st vs hx => by
 rw [show S xid = some [.sl .no 4 (encWs ws)] from h] at hx
 injection hx with hx
 injection hx with hx
 cases hx
theorem Ps.beside {S S' : Store} {mid vid xid : Nat} {L : List Pr} {T : WT} {t : V.T} {ws : List Wv} (h : Ps S mid vid L T t) (hr : Rv S xid ws) (h1 : mid ≠ xid) (h2 : vid ≠ xid) (hs : ∀ id c, id ≠ xid → S id = some c → S' id = some c) : Ps S' mid vid L T t :=
 h.frame h1 h1 h2 h2 hr.no hr.no (fun id c h _ hx => hs id c h hx)
end Go.Proofs.YtdioedabjaaboaaGreat.V
