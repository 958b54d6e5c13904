/- Views: a map and views over it, step by step beside the document's views. -/
import Derived.Test.YtdioedabjaaboaaGreatYR
set_option linter.unusedVariables false
set_option linter.unusedSimpArgs false
namespace Go.Proofs.YtdioedabjaaboaaGreat.V
open Go Go.VL

set_option maxHeartbeats 8000000 in
theorem plays_law (l : List DV) (hl : l.length ≤ 1599289640354) (hw : ∀ d ∈ l, FitW d.view) (S : Store) (K : PV → Store → Prop) (hK : ∀ S', K (.bool true) S') : PCalls Tryz.prog 7 [.sl .no 6 (encDvs l)] S K := by
 refine pcalls_of (C := C) (fun _ => false) (fun d => d == 16) Tryz.func7 rfl rfl (by simp [Tryz.f7]) ?_
 simp -implicitDefEqProofs only [go_sem, ↓reduceIte, Nat.reduceEqDiff, Nat.reduceLT, Nat.reduceLeDiff, Nat.reduceAdd, Nat.reduceMul, Nat.reduceSub, reduceCtorEq, Nat.reduceMod, Nat.reduceBEq, Int.reduceBEq, Int.reduceBNe, Int.reduceToNat, Tryz.f7]
 refine shortV_spec l _ _ ?_
 cases hs : shortV l
 ·simp -implicitDefEqProofs only [go_sem, ↓reduceIte, Nat.reduceEqDiff, Nat.reduceLT, Nat.reduceLeDiff, Nat.reduceAdd, Nat.reduceMul, Nat.reduceSub, reduceCtorEq, Nat.reduceMod, Nat.reduceBEq, Int.reduceBEq, Int.reduceBNe, Int.reduceToNat, Bool.not_false]
  refine aw_calls _ _ ?_
  intro S'
  simp -implicitDefEqProofs only [go_sem, ↓reduceIte, Nat.reduceEqDiff, Nat.reduceLT, Nat.reduceLeDiff, Nat.reduceAdd, Nat.reduceMul, Nat.reduceSub, reduceCtorEq, Nat.reduceMod, Nat.reduceBEq, Int.reduceBEq, Int.reduceBNe, Int.reduceToNat]
  exact ⟨S', fun _ _ h => h, hK S'⟩
 obtain ⟨hs1, hs2⟩ := shortV_fit hs
 have hO : ∀ d ∈ l, FitO d.ops := fun d hd => (weighV_all (hs2 d hd)).2
 simp -implicitDefEqProofs only [go_sem, ↓reduceIte, Nat.reduceEqDiff, Nat.reduceLT, Nat.reduceLeDiff, Nat.reduceAdd, Nat.reduceMul, Nat.reduceSub, reduceCtorEq, Nat.reduceMod, Nat.reduceBEq, Int.reduceBEq, Int.reduceBNe, Int.reduceToNat, Bool.not_true, Bool.false_eq_true]
 refine begun_calls S _ ?_
 intro S1 mid vid hsub hmid hvid h1
 unfold encPair
 simp -implicitDefEqProofs only [go_sem, ↓reduceIte, Nat.reduceEqDiff, Nat.reduceLT, Nat.reduceLeDiff, Nat.reduceAdd, Nat.reduceMul, Nat.reduceSub, reduceCtorEq, Nat.reduceMod, Nat.reduceBEq, Int.reduceBEq, Int.reduceBNe, Int.reduceToNat]
 intro xid hx
 have nm : mid ≠ xid := fun he => by rw [← he, h1.km.1] at hx; cases hx
 have nv : vid ≠ xid := fun he => by rw [← he, h1.vs.at_] at hx; cases hx
 refine vloop (fun e S' => ∃ (k : Nat) (L : List Pr) (T : WT) (t : V.T), k ≤ l.length ∧ Ps S' mid vid L T t ∧ Rv S' xid (T.map Prod.fst) ∧ GoodW (T.map Prod.fst) L ∧ T.length ≤ 4 ∧ L.length ≤ 6 * k ∧
  e 3 = .ip [.ref mid 0, .ref vid 0] 0 ∧ e 4 = .ref xid 0 ∧ e 17 = .sl .no 6 (encDvs l) ∧ e 18 = .int .i64 l.length ∧ e 19 = .int .i64 k) (fun e _ => l.length - iv (e 19)) ?_ ?_
 ·refine ⟨0, [], [], .nil, Nat.zero_le _, h1.keep ?_, set_at _ _ _, ⟨fun w hw => (by cases hw), List.nodup_nil⟩, by decide, Nat.zero_le _, by simp -implicitDefEqProofs only [go_sem, ↓reduceIte, Nat.reduceEqDiff], by simp -implicitDefEqProofs only [go_sem, ↓reduceIte, Nat.reduceEqDiff], by simp -implicitDefEqProofs only [go_sem, ↓reduceIte, Nat.reduceEqDiff], by simp -implicitDefEqProofs only [go_sem, ↓reduceIte, Nat.reduceEqDiff], by simp -implicitDefEqProofs only [go_sem, ↓reduceIte, Nat.reduceEqDiff]⟩
  intro id c hc
  rw [Go.VL.set_ne (fun he => by rw [he, hx] at hc; cases hc), hc]
 ·rintro J M Q' hJ hM hQ e S2 ⟨k, L, T, t, hk, hp, hrv, hg, hT4, hL, e3, e4, e17, e18, e19⟩
  by_cases hlt : k < l.length
  ·obtain ⟨d, hd⟩ : ∃ d, l[k]? = some d := ⟨l[k], List.getElem?_eq_getElem hlt⟩
   have hlti : (k : Int) < (l.length : Int) := by omega
   have h0 : (0 : Int) ≤ (k : Int) ∧ (k : Int) < (l.length : Int) := by omega
   have hw1 : IntKind.i64.wrap ((k : Int) + 1) = ((k + 1 : Nat) : Int) := wrap64 (by omega) (by omega)
   have hdO := hO d (List.mem_of_getElem? hd)
   have hdw := hw d (List.mem_of_getElem? hd)
   have hli := hp.list
   have hkm := hp.km
   have hLP : L.length ≤ 1000000 := by omega
   have hse : Sorted L := hli ▸ hkm.2.2
   have hnd : (L.map Prod.fst).Nodup := sorted_nodup hse
   have hWl : (T.map Prod.fst).length ≤ 4 := by rw [List.length_map]; exact hT4
   have hran := opV_range d.op
   simp -implicitDefEqProofs only [go_sem, ↓reduceIte, Nat.reduceEqDiff, Nat.reduceLT, Nat.reduceLeDiff, Nat.reduceAdd, Nat.reduceMul, Nat.reduceSub, reduceCtorEq, Nat.reduceMod, Nat.reduceBEq, Int.reduceBEq, Int.reduceBNe, Int.reduceToNat, e3, e4, e17, e18, e19, hlti, h0, Int.toNat_natCast, getD_encDvs hd]
   refine KScan_spec hkm (by rw [hli]; exact hLP) _ _ _ ?_
   rw [hli, rangeL_all]
   have hop : opV d.op = 4 ∨ opV d.op = 5 ∨ opV d.op = 6 ∨ opV d.op = 7 ∨ opV d.op < 4 := by omega
   rcases hop with hop | hop | hop | hop | hop
   case' inl =>
    have hd4 : IntKind.i64.wrap ((IntKind.u64.wrap d.op).tmod 8) = 4 := hop
    simp -implicitDefEqProofs only [go_sem, ↓reduceIte, Nat.reduceEqDiff, Nat.reduceLT, Nat.reduceLeDiff, Nat.reduceAdd, Nat.reduceMul, Nat.reduceSub, reduceCtorEq, Nat.reduceMod, Nat.reduceBEq, Int.reduceBEq, Int.reduceBNe, Int.reduceToNat, remV8, hd4, e4]
    refine RAdd_calls hrv hWl d.view hdw L hLP hp.fit hnd _ ?_
    have hE : stepE (T.map Prod.fst) L d = addW d.view (T.map Prod.fst) L := by unfold stepE; rw [if_neg (by omega), if_pos (by omega)]
    have hWs : stepW (T.map Prod.fst) L d = (if addW d.view (T.map Prod.fst) L = 0 then T.map Prod.fst ++ [d.view] else T.map Prod.fst) := by unfold stepW; rw [if_neg (by omega), if_pos (by omega)]
    obtain ⟨S3, hS3⟩ : ∃ S3, S3 = (if addW d.view (T.map Prod.fst) L = 0 then S2.set xid (some [.sl .no 4 (encWs (T.map Prod.fst ++ [d.view]))]) else S2) := ⟨_, rfl⟩
    rw [← hS3, ← hE]
    have hp2 : Ps S3 mid vid L T t := by
     rw [hS3]
     split
     ·exact hp.beside hrv nm nv (fun id c h hx => by rw [Go.VL.set_ne h]; exact hx)
     ·exact hp
    have hrv2 : Rv S3 xid (stepW (T.map Prod.fst) L d) := by
     rw [hS3, hWs]
     split
     ·exact set_at _ _ _
     ·exact hrv
    simp -implicitDefEqProofs only [go_sem, ↓reduceIte, Nat.reduceEqDiff, Nat.reduceLT, Nat.reduceLeDiff, Nat.reduceAdd, Nat.reduceMul, Nat.reduceSub, reduceCtorEq, Nat.reduceMod, Nat.reduceBEq, Int.reduceBEq, Int.reduceBNe, Int.reduceToNat]
   case' inr.inl =>
    have hd4 : IntKind.i64.wrap ((IntKind.u64.wrap d.op).tmod 8) = 5 := hop
    have e54 : ((5 : Int) == 4) = false := rfl
    simp -implicitDefEqProofs only [go_sem, ↓reduceIte, Nat.reduceEqDiff, Nat.reduceLT, Nat.reduceLeDiff, Nat.reduceAdd, Nat.reduceMul, Nat.reduceSub, reduceCtorEq, Nat.reduceMod, Nat.reduceBEq, Int.reduceBEq, Int.reduceBNe, Int.reduceToNat, remV8, hd4, e54, e4]
    refine RAdd_calls hrv hWl d.view hdw L hLP hp.fit hnd _ ?_
    have hE : stepE (T.map Prod.fst) L d = addW d.view (T.map Prod.fst) L := by unfold stepE; rw [if_neg (by omega), if_pos (by omega)]
    have hWs : stepW (T.map Prod.fst) L d = (if addW d.view (T.map Prod.fst) L = 0 then T.map Prod.fst ++ [d.view] else T.map Prod.fst) := by unfold stepW; rw [if_neg (by omega), if_pos (by omega)]
    obtain ⟨S3, hS3⟩ : ∃ S3, S3 = (if addW d.view (T.map Prod.fst) L = 0 then S2.set xid (some [.sl .no 4 (encWs (T.map Prod.fst ++ [d.view]))]) else S2) := ⟨_, rfl⟩
    rw [← hS3, ← hE]
    have hp2 : Ps S3 mid vid L T t := by
     rw [hS3]
     split
     ·exact hp.beside hrv nm nv (fun id c h hx => by rw [Go.VL.set_ne h]; exact hx)
     ·exact hp
    have hrv2 : Rv S3 xid (stepW (T.map Prod.fst) L d) := by
     rw [hS3, hWs]
     split
     ·exact set_at _ _ _
     ·exact hrv
    simp -implicitDefEqProofs only [go_sem, ↓reduceIte, Nat.reduceEqDiff, Nat.reduceLT, Nat.reduceLeDiff, Nat.reduceAdd, Nat.reduceMul, Nat.reduceSub, reduceCtorEq, Nat.reduceMod, Nat.reduceBEq, Int.reduceBEq, Int.reduceBNe, Int.reduceToNat]
   case' inr.inr.inl =>
    have hd4 : IntKind.i64.wrap ((IntKind.u64.wrap d.op).tmod 8) = 6 := hop
    have e54 : ((6 : Int) == 4) = false := rfl
    have e55 : ((6 : Int) == 5) = false := rfl
    simp -implicitDefEqProofs only [go_sem, ↓reduceIte, Nat.reduceEqDiff, Nat.reduceLT, Nat.reduceLeDiff, Nat.reduceAdd, Nat.reduceMul, Nat.reduceSub, reduceCtorEq, Nat.reduceMod, Nat.reduceBEq, Int.reduceBEq, Int.reduceBNe, Int.reduceToNat, remV8, hd4, e54, e55, e4]
    refine RDrop_calls hrv hWl d.view.name _ ?_
    have hE : stepE (T.map Prod.fst) L d = dropW d.view.name (T.map Prod.fst) := by unfold stepE; rw [if_neg (by omega), if_neg (by omega), if_pos hop]
    have hWs : stepW (T.map Prod.fst) L d = lessW d.view.name (T.map Prod.fst) := by unfold stepW; rw [if_neg (by omega), if_neg (by omega), if_pos hop]
    obtain ⟨S3, hS3⟩ : ∃ S3, S3 = S2.set xid (some [.sl .no 4 (encWs (lessW d.view.name (T.map Prod.fst)))]) := ⟨_, rfl⟩
    rw [← hS3, ← hE]
    have hp2 : Ps S3 mid vid L T t := by rw [hS3]; exact hp.beside hrv nm nv (fun id c h hx => by rw [Go.VL.set_ne h]; exact hx)
    have hrv2 : Rv S3 xid (stepW (T.map Prod.fst) L d) := by rw [hS3, hWs]; exact set_at _ _ _
    simp -implicitDefEqProofs only [go_sem, ↓reduceIte, Nat.reduceEqDiff, Nat.reduceLT, Nat.reduceLeDiff, Nat.reduceAdd, Nat.reduceMul, Nat.reduceSub, reduceCtorEq, Nat.reduceMod, Nat.reduceBEq, Int.reduceBEq, Int.reduceBNe, Int.reduceToNat]
   case' inr.inr.inr.inl =>
    have hd4 : IntKind.i64.wrap ((IntKind.u64.wrap d.op).tmod 8) = 7 := hop
    have e54 : ((7 : Int) == 4) = false := rfl
    have e55 : ((7 : Int) == 5) = false := rfl
    have e56 : ((7 : Int) == 6) = false := rfl
    have hone : [[PV.str d.view.name, PV.int .i64 d.view.kind, PV.str d.view.field, PV.str d.view.of_]] = encWs [d.view] := rfl
    simp -implicitDefEqProofs only [go_sem, ↓reduceIte, Nat.reduceEqDiff, Nat.reduceLT, Nat.reduceLeDiff, Nat.reduceAdd, Nat.reduceMul, Nat.reduceSub, reduceCtorEq, Nat.reduceMod, Nat.reduceBEq, Int.reduceBEq, Int.reduceBNe, Int.reduceToNat, remV8, hd4, e54, e55, e56, hone, e4]
    refine RSet_calls hrv d.view hdw L hLP hp.fit hnd _ ?_
    intro S3 hs3 hrv3
    have hE : stepE (T.map Prod.fst) L d = addW d.view [] L := by unfold stepE; rw [if_neg (by omega), if_neg (by omega), if_neg (by omega)]
    have hWs : stepW (T.map Prod.fst) L d = (if addW d.view [] L = 0 then [d.view] else T.map Prod.fst) := by unfold stepW; rw [if_neg (by omega), if_neg (by omega), if_neg (by omega)]
    rw [← hE]
    have hp2 : Ps S3 mid vid L T t := hp.beside hrv nm nv (fun id c h hx => hs3 _ _ (by rw [Go.VL.set_ne h]; exact hx))
    have hrv2 : Rv S3 xid (stepW (T.map Prod.fst) L d) := by rw [hWs]; exact hrv3
    simp -implicitDefEqProofs only [go_sem, ↓reduceIte, Nat.reduceEqDiff, Nat.reduceLT, Nat.reduceLeDiff, Nat.reduceAdd, Nat.reduceMul, Nat.reduceSub, reduceCtorEq, Nat.reduceMod, Nat.reduceBEq, Int.reduceBEq, Int.reduceBNe, Int.reduceToNat]
   case' inr.inr.inr.inr =>
    have d4 : (IntKind.i64.wrap ((IntKind.u64.wrap d.op).tmod 8) == 4) = false := beq_eq_false_iff_ne.2 (by unfold opV at hop; omega)
    have d5 : (IntKind.i64.wrap ((IntKind.u64.wrap d.op).tmod 8) == 5) = false := beq_eq_false_iff_ne.2 (by unfold opV at hop; omega)
    have d6 : (IntKind.i64.wrap ((IntKind.u64.wrap d.op).tmod 8) == 6) = false := beq_eq_false_iff_ne.2 (by unfold opV at hop; omega)
    have d7 : (IntKind.i64.wrap ((IntKind.u64.wrap d.op).tmod 8) == 7) = false := beq_eq_false_iff_ne.2 (by unfold opV at hop; omega)
    simp -implicitDefEqProofs only [go_sem, ↓reduceIte, Nat.reduceEqDiff, Nat.reduceLT, Nat.reduceLeDiff, Nat.reduceAdd, Nat.reduceMul, Nat.reduceSub, reduceCtorEq, Nat.reduceMod, Nat.reduceBEq, Int.reduceBEq, Int.reduceBNe, Int.reduceToNat, remV8, d4, d5, d6, d7, e3]
    refine KClone_calls hkm _ fun cid hc => ?_
    have hkc : Km (S2.set cid (some [.ip [enc t] 0])) cid t := Km.mk S2 cid hkm.2.1 hkm.2.2
    simp -implicitDefEqProofs only [go_sem, ↓reduceIte, Nat.reduceEqDiff, Nat.reduceLT, Nat.reduceLeDiff, Nat.reduceAdd, Nat.reduceMul, Nat.reduceSub, reduceCtorEq, Nat.reduceMod, Nat.reduceBEq, Int.reduceBEq, Int.reduceBNe, Int.reduceToNat]
    refine PCalls.unflag (KDo_calls hkc (by rw [hli]; omega) 1 [] d.ops _ fun q hq hql => ?_)
    rw [set_set] at hq ⊢
    rw [hli] at hql ⊢
    obtain ⟨S3, hS3⟩ : ∃ S3, S3 = S2.set cid (some [.ip [enc q] 0]) := ⟨_, rfl⟩
    rw [← hS3] at hq ⊢
    have hsub3 : Sub' S2 S3 := fun id c hx => by rw [hS3, Go.VL.set_ne (fun he => by rw [he, hc] at hx; cases hx)]; exact hx
    have hp2 : Ps S3 mid vid L T t := hp.keep hsub3
    have hWs : stepW (T.map Prod.fst) L d = T.map Prod.fst := by unfold stepW; rw [if_pos hop]
    have hrv3 : Rv S3 xid (T.map Prod.fst) := hsub3 _ _ hrv
    have hrv2 : Rv S3 xid (stepW (T.map Prod.fst) L d) := by rw [hWs]; exact hrv3
    have hE0 : stepE (T.map Prod.fst) L d = opsEW (T.map Prod.fst) L d.ops := by unfold stepE; rw [if_pos hop]
    have hdl := (doF_ok hse 1 [] d.ops)
    have hdfit : FitK (doF L 1 [] d.ops) := by
     rw [doF_take]
     exact fit_take _ _ hp.fit (planF_fit hp.fit hdO)
    unfold opsEW at hE0
    generalize doF L 1 [] d.ops = D at hql hdl hdfit hE0
    generalize planF L 1 [] d.ops = r at hE0 ⊢
    unfold encPl
    by_cases hc0 : r.2 = 0
    case' pos =>
     rw [if_neg (by simp [hc0])] at hE0
     rw [hc0]
     have e00' : ((0 : Int) == 0) = true := rfl
     simp -implicitDefEqProofs only [go_sem, ↓reduceIte, Nat.reduceEqDiff, Nat.reduceLT, Nat.reduceLeDiff, Nat.reduceAdd, Nat.reduceMul, Nat.reduceSub, reduceCtorEq, Nat.reduceMod, Nat.reduceBEq, Int.reduceBEq, Int.reduceBNe, Int.reduceToNat, e00']
     refine KScan_spec hq (by rw [hql]; omega) _ _ _ ?_
     rw [hql, rangeL_all]
     simp -implicitDefEqProofs only [go_sem, ↓reduceIte, Nat.reduceEqDiff, Nat.reduceLT, Nat.reduceLeDiff, Nat.reduceAdd, Nat.reduceMul, Nat.reduceSub, reduceCtorEq, Nat.reduceMod, Nat.reduceBEq, Int.reduceBEq, Int.reduceBNe, Int.reduceToNat, e4]
     refine RFits_spec hrv3 (by omega) (fun w hw => ⟨(hg.ok w hw).1, (hg.ok w hw).2.2⟩) D (by omega) hdfit (sorted_nodup hdl.1) _ ?_
     rw [← hE0]
     simp -implicitDefEqProofs only [go_sem, ↓reduceIte, Nat.reduceEqDiff, Nat.reduceLT, Nat.reduceLeDiff, Nat.reduceAdd, Nat.reduceMul, Nat.reduceSub, reduceCtorEq, Nat.reduceMod, Nat.reduceBEq, Int.reduceBEq, Int.reduceBNe, Int.reduceToNat]
    case' neg =>
     rw [if_pos hc0] at hE0
     have e01' : (r.2 == 0) = false := beq_eq_false_iff_ne.2 hc0
     simp -implicitDefEqProofs only [go_sem, ↓reduceIte, Nat.reduceEqDiff, Nat.reduceLT, Nat.reduceLeDiff, Nat.reduceAdd, Nat.reduceMul, Nat.reduceSub, reduceCtorEq, Nat.reduceMod, Nat.reduceBEq, Int.reduceBEq, Int.reduceBNe, Int.reduceToNat, e01']
     rw [← hE0]
   all_goals
    refine vwp_mix (n := 21) (fun k => k == 2 || k == 18) (fun _ => false) [0, 1, 3, 2, 4, 5, 6, 7, 8, 9, 10, 11, 12, 13, 14, 15, 16, 17, 18, 19, 20] (by decide +kernel) ?_
    simp -implicitDefEqProofs only [go_sem, ↓reduceIte, Nat.reduceEqDiff, Nat.reduceLT, Nat.reduceLeDiff, Nat.reduceAdd, Nat.reduceMul, Nat.reduceSub, reduceCtorEq, Nat.reduceMod, Nat.reduceBEq, Int.reduceBEq, Int.reduceBNe, Int.reduceToNat, e3]
    refine does_all hp2 hT4 d hdO (by omega) _ ?_
    intro S4 N t4 hfr hN hp4
    have hrv4 : Rv S4 xid (N.map Prod.fst) := by rw [hN]; exact hfr _ _ (Ne.symm nv) (Ne.symm nm) hrv2
    have hrv4' : S4 xid = some [.sl .no 4 (encWs (N.map Prod.fst))] := hrv4
    have hg4 : GoodW (N.map Prod.fst) (stepL (T.map Prod.fst) L d) := by rw [hN]; exact hg.step d hdw
    have hN4 : N.length ≤ 4 := by have := stepW_len hWl L d; rw [← hN, List.length_map] at this; exact this
    have hL4 := stepL_len (ws := T.map Prod.fst) hse d
    simp -implicitDefEqProofs only [go_sem, ↓reduceIte, Nat.reduceEqDiff, Nat.reduceLT, Nat.reduceLeDiff, Nat.reduceAdd, Nat.reduceMul, Nat.reduceSub, reduceCtorEq, Nat.reduceMod, Nat.reduceBEq, Int.reduceBEq, Int.reduceBNe, Int.reduceToNat, neI, Bool.false_eq_true, e3]
    refine q_call _ (by simp -implicitDefEqProofs only [go_sem, ↓reduceIte, Nat.reduceEqDiff]; exact VList_spec hp4.vs hp4.few) (by decide) rfl ?_
    simp -implicitDefEqProofs only [go_sem, ↓reduceIte, Nat.reduceEqDiff, Nat.reduceLT, Nat.reduceLeDiff, Nat.reduceAdd, Nat.reduceMul, Nat.reduceSub, reduceCtorEq, Nat.reduceMod, Nat.reduceBEq, Int.reduceBEq, Int.reduceBNe, Int.reduceToNat, e4, hrv4']
    refine q_call _ (by simp -implicitDefEqProofs only [go_sem, ↓reduceIte, Nat.reduceEqDiff]; exact EqualW_refl _ (by rw [List.length_map]; omega) _) (by decide) rfl ?_
    simp -implicitDefEqProofs only [go_sem, ↓reduceIte, Nat.reduceEqDiff, Nat.reduceLT, Nat.reduceLeDiff, Nat.reduceAdd, Nat.reduceMul, Nat.reduceSub, reduceCtorEq, Nat.reduceMod, Nat.reduceBEq, Int.reduceBEq, Int.reduceBNe, Int.reduceToNat, Bool.not_true, Bool.false_eq_true, e3]
    refine told_calls hp4 hg4 _ ?_
    intro S5 hs5
    simp -implicitDefEqProofs only [go_sem, ↓reduceIte, Nat.reduceEqDiff, Nat.reduceLT, Nat.reduceLeDiff, Nat.reduceAdd, Nat.reduceMul, Nat.reduceSub, reduceCtorEq, Nat.reduceMod, Nat.reduceBEq, Int.reduceBEq, Int.reduceBNe, Int.reduceToNat, Bool.not_true, Bool.false_eq_true, e19, hw1]
    refine vnext hJ hM S5 (fun _ _ h => h) ⟨k + 1, _, N, t4, hlt, hp4.keep hs5, hs5 _ _ hrv4, hg4, hN4, by omega, ?_, ?_, ?_, ?_, ?_⟩ ?_
    ·simp -implicitDefEqProofs only [go_sem, ↓reduceIte, Nat.reduceEqDiff, e3]
    ·simp -implicitDefEqProofs only [go_sem, ↓reduceIte, Nat.reduceEqDiff, e4]
    ·simp -implicitDefEqProofs only [go_sem, ↓reduceIte, Nat.reduceEqDiff, e17]
    ·simp -implicitDefEqProofs only [go_sem, ↓reduceIte, Nat.reduceEqDiff, e18]
    ·simp -implicitDefEqProofs only [go_sem, ↓reduceIte, Nat.reduceEqDiff]
    ·simp -implicitDefEqProofs only [go_sem, ↓reduceIte, Nat.reduceEqDiff, e19, Int.toNat_natCast]
     omega
  ·have hnl : ¬ (k : Int) < (l.length : Int) := by omega
   simp -implicitDefEqProofs only [go_sem, ↓reduceIte, Nat.reduceEqDiff, Nat.reduceLT, Nat.reduceLeDiff, Nat.reduceAdd, Nat.reduceMul, Nat.reduceSub, reduceCtorEq, Nat.reduceMod, Nat.reduceBEq, Int.reduceBEq, Int.reduceBNe, Int.reduceToNat, e18, e19, hnl]
   refine hQ _ _ _ ?_
   simp -implicitDefEqProofs only [go_sem, ↓reduceIte, Nat.reduceEqDiff, Nat.reduceLT, Nat.reduceLeDiff, Nat.reduceAdd, Nat.reduceMul, Nat.reduceSub, reduceCtorEq, Nat.reduceMod, Nat.reduceBEq, Int.reduceBEq, Int.reduceBNe, Int.reduceToNat]
   refine aw_calls _ _ ?_
   intro S5
   simp -implicitDefEqProofs only [go_sem, ↓reduceIte, Nat.reduceEqDiff, Nat.reduceLT, Nat.reduceLeDiff, Nat.reduceAdd, Nat.reduceMul, Nat.reduceSub, reduceCtorEq, Nat.reduceMod, Nat.reduceBEq, Int.reduceBEq, Int.reduceBNe, Int.reduceToNat]
   exact ⟨S5, fun _ _ h => h, hK S5⟩
end Go.Proofs.YtdioedabjaaboaaGreat.V
