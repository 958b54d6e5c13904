/- Views: dropped, set, listed; what befalls a map and views over it, in full. -/
import Derived.Test.YtdioedabjaaboaaGreatYN
import Derived.Test.YtdioedabjaaboaaGreatYO
set_option linter.unusedVariables false
set_option linter.unusedSimpArgs false
namespace Go.Proofs.YtdioedabjaaboaaGreat.V
open Go Go.VL

theorem set_none' {S : Store} {id : Nat} {c : Option (List PV)} {x : Nat} (h : (S.set id c) x = none) (hc : c ≠ none) : x ≠ id ∧ S x = none := by
 have hne : x ≠ id := fun he => by rw [he, set_at] at h; exact hc h
 rw [Go.VL.set_ne hne] at h
 exact ⟨hne, h⟩
theorem cloneTArr_calls (T : WT) (hT : T.length ≤ 1000000) (hne : T ≠ []) (S : Store) (K : PV → Store → Prop) (hK : ∀ id, S id = none → K (.arr .tail id 0 T.length 5) (S.set id (some (cellsTs T)))) : PCalls Tryz.prog 90 [.sl .no 5 (encTs T)] S K := by
 refine pcalls_of (C := C) (fun d => d == 2) (fun d => d == 2 || d == 7) Tryz.func90 rfl rfl (by simp [Tryz.f90]) ?_
 simp -implicitDefEqProofs only [go_sem, ↓reduceIte, Nat.reduceEqDiff, Nat.reduceLT, Nat.reduceLeDiff, Nat.reduceAdd, Nat.reduceMul, Nat.reduceSub, reduceCtorEq, Nat.reduceMod, Nat.reduceBEq, Int.reduceBEq, Int.reduceBNe, Int.reduceToNat, Tryz.f90]
 intro id0 hid0 b hb
 cases b
 ·simp -implicitDefEqProofs only [go_sem, ↓reduceIte, Nat.reduceEqDiff]
  have h1 : (T.length) * 64 ≤ 140737488355328 ∧ T.length ≤ 140737488355328 := by omega
  simp -implicitDefEqProofs only [go_sem, ↓reduceIte, Nat.reduceEqDiff, Nat.reduceLT, Nat.reduceLeDiff, Nat.reduceAdd, Nat.reduceMul, Nat.reduceSub, reduceCtorEq, Nat.reduceMod, Nat.reduceBEq, Int.reduceBEq, Int.reduceBNe, Int.reduceToNat, h1]
  intro id hid
  obtain ⟨h2, h3⟩ := set_none' hid (by simp)
  exact ⟨S.set id (some (cellsTs T)), fun i c hi => by
   simp only [Store.set] at hi ⊢
   split
   ·rename_i h; rw [if_pos h] at hi; exact hi
   ·rename_i h
    rw [if_neg h] at hi
    rw [if_neg (fun e => by rw [e, hid0] at hi; cases hi)]
    exact hi, hK id h3⟩
 ·exfalso
  have h0 := hb rfl
  apply hne
  exact List.eq_nil_of_length_eq_zero (by rw [← len_encTs, h0]; rfl)
theorem VDrop_calls {S : Store} {vid : Nat} {T : WT} {P : List Pr} (h : Vs S vid T P) (hT : T.length ≤ 1000000) (n : ByteArray) (K : PV → Store → Prop)
  (hK : ∀ S', (∀ id x, id ≠ vid → S id = some x → S' id = some x) → Vs S' vid (if whereF n T 0 < 0 then T else T.eraseIdx (whereF n T 0).toNat) P → K (.int .i64 (dropW n (T.map Prod.fst))) S') :
  PCalls Tryz.prog 59 [.ref vid 0, .str n] S K := by
 refine pcalls_of (C := C) (fun _ => false) (fun _ => false) Tryz.func59 rfl rfl (by simp [Tryz.f59]) ?_
 simp -implicitDefEqProofs only [go_sem, ↓reduceIte, Nat.reduceEqDiff, Nat.reduceLT, Nat.reduceLeDiff, Nat.reduceAdd, Nat.reduceMul, Nat.reduceSub, reduceCtorEq, Nat.reduceMod, Nat.reduceBEq, Int.reduceBEq, Int.reduceBNe, Int.reduceToNat, Tryz.f59]
 refine dead_spec h _ ?_
 simp -implicitDefEqProofs only [go_sem, ↓reduceIte, Nat.reduceEqDiff, Nat.reduceLT, Nat.reduceLeDiff, Nat.reduceAdd, Nat.reduceMul, Nat.reduceSub, reduceCtorEq, Nat.reduceMod, Nat.reduceBEq, Int.reduceBEq, Int.reduceBNe, Int.reduceToNat, Bool.false_eq_true]
 refine VFind_spec h hT n _ ?_
 unfold dropW at hK
 rw [← whereF_W] at hK
 by_cases h1 : whereF n T 0 < 0
 ·rw [if_pos h1, if_pos h1] at hK
  simp -implicitDefEqProofs only [go_sem, ↓reduceIte, Nat.reduceEqDiff, Nat.reduceLT, Nat.reduceLeDiff, Nat.reduceAdd, Nat.reduceMul, Nat.reduceSub, reduceCtorEq, Nat.reduceMod, Nat.reduceBEq, Int.reduceBEq, Int.reduceBNe, Int.reduceToNat, h1]
  exact ⟨S, fun _ _ h => h, hK S (fun _ _ _ h => h) h⟩
 ·rw [if_neg h1, if_neg h1] at hK
  have hr : (0 : Int) ≤ whereF n T 0 := by omega
  obtain ⟨j, hj⟩ : ∃ j : Nat, whereF n T 0 = (j : Int) := ⟨(whereF n T 0).toNat, by omega⟩
  obtain ⟨t, _, htj, _⟩ := whereF_at hj
  rw [Nat.sub_zero] at htj
  have hjl : j < T.length := (List.getElem?_eq_some_iff.1 htj).1
  rw [hj, Int.toNat_natCast] at hK
  rw [hj] at h1 ⊢
  have hw1 : IntKind.i64.wrap ((j : Int) + 1) = ((j + 1 : Nat) : Int) := wrap64 (by omega) (by omega)
  simp -implicitDefEqProofs only [go_sem, ↓reduceIte, Nat.reduceEqDiff, Nat.reduceLT, Nat.reduceLeDiff, Nat.reduceAdd, Nat.reduceMul, Nat.reduceSub, reduceCtorEq, Nat.reduceMod, Nat.reduceBEq, Int.reduceBEq, Int.reduceBNe, Int.reduceToNat, h1, Bool.false_eq_true, h.at_]
  refine cloneTArr_calls T hT (fun he => by rw [he] at hjl; exact absurd hjl (Nat.not_lt_zero _)) _ _ ?_
  intro id hid
  have hvi : vid ≠ id := fun he => by rw [← he, h.at_] at hid; cases hid
  simp -implicitDefEqProofs only [go_sem, ↓reduceIte, Nat.reduceEqDiff, Nat.reduceLT, Nat.reduceLeDiff, Nat.reduceAdd, Nat.reduceMul, Nat.reduceSub, reduceCtorEq, Nat.reduceMod, Nat.reduceBEq, Int.reduceBEq, Int.reduceBNe, Int.reduceToNat, hw1]
  refine VDelete_calls T j hjl hT (set_at _ _ _) _ ?_
  have hst : (fun x => if x = id then none else (S.set id (some (cellsTs T))) x) = S := by
   funext x
   by_cases hx : x = id
   ·subst hx; rw [if_pos rfl, hid]
   ·rw [if_neg hx, Go.VL.set_ne hx]
  rw [hst]
  simp -implicitDefEqProofs only [go_sem, ↓reduceIte, Nat.reduceEqDiff, Nat.reduceLT, Nat.reduceLeDiff, Nat.reduceAdd, Nat.reduceMul, Nat.reduceSub, reduceCtorEq, Nat.reduceMod, Nat.reduceBEq, Int.reduceBEq, Int.reduceBNe, Int.reduceToNat, h.at_, psplice]
  refine ⟨_, fun _ _ h => h, hK _ ?_ ⟨set_at _ _ _, fun t ht => ?_⟩⟩
  ·intro x c hx hc
   rw [Go.VL.set_ne hx]; exact hc
  ·obtain ⟨kd, hkd⟩ := h.tabs t (List.mem_of_mem_eraseIdx ht)
   exact ⟨kd, hkd.keepM (keepM_set h.at_)⟩
theorem VSet_calls {S : Store} {vid : Nat} {T : WT} {P : List Pr} (h : Vs S vid T P) (w : Wv) (hP : P.length ≤ 1000000) (hf : FitK P) (hn : (P.map Prod.fst).Nodup) (K : PV → Store → Prop)
  (hK : ∀ S' N, (∀ id x, id ≠ vid → S id = some x → S' id = some x) → N.map Prod.fst = (if addW w [] P = 0 then [w] else T.map Prod.fst) → Vs S' vid N P → K (.int .i64 (addW w [] P)) S') :
  PCalls Tryz.prog 60 [.ref vid 0, .sl .no 4 (encWs [w]), .sl .no 3 (encOs (P.map kOf))] S K := by
 refine pcalls_of (C := C) (fun _ => false) (fun _ => false) Tryz.func60 rfl rfl (by simp [Tryz.f60]) ?_
 simp -implicitDefEqProofs only [go_sem, ↓reduceIte, Nat.reduceEqDiff, Nat.reduceLT, Nat.reduceLeDiff, Nat.reduceAdd, Nat.reduceMul, Nat.reduceSub, reduceCtorEq, Nat.reduceMod, Nat.reduceBEq, Int.reduceBEq, Int.reduceBNe, Int.reduceToNat, Tryz.f60]
 refine dead_spec h _ ?_
 simp -implicitDefEqProofs only [go_sem, ↓reduceIte, Nat.reduceEqDiff, Nat.reduceLT, Nat.reduceLeDiff, Nat.reduceAdd, Nat.reduceMul, Nat.reduceSub, reduceCtorEq, Nat.reduceMod, Nat.reduceBEq, Int.reduceBEq, Int.reduceBNe, Int.reduceToNat, Bool.false_eq_true]
 refine VNew_calls _ _ ?_
 intro lid hl
 have hlv : vid ≠ lid := fun he => by rw [← he, h.at_] at hl; cases hl
 have hlate : Vs (S.set lid (some [.sl .no 5 [], .bool true])) lid [] P := Vs.nil _ _ _
 have hsub : Sub' S (S.set lid (some [.sl .no 5 [], .bool true])) := fun id x hx => by rw [Go.VL.set_ne (fun he => by rw [he, hl] at hx; cases hx), hx]
 have hnm : ∀ cl st vs, (S.set lid (some [PV.sl .no 5 [], .bool true])) lid ≠ some [PV.mcon cl st vs] := fun cl st vs hx => by
  rw [set_at] at hx; injection hx with hx; injection hx with hx; cases hx
 have hv0 := h.keep hsub
 generalize S.set lid (some [.sl .no 5 [], .bool true]) = S1 at hlate hsub hv0 hnm ⊢
 have i1 : ((1 : Nat) : Int) = 1 := rfl
 have hw1 : IntKind.i64.wrap ((0 : Int) + 1) = 1 := rfl
 simp -implicitDefEqProofs only [go_sem, ↓reduceIte, Nat.reduceEqDiff, Nat.reduceLT, Nat.reduceLeDiff, Nat.reduceAdd, Nat.reduceMul, Nat.reduceSub, reduceCtorEq, Nat.reduceMod, Nat.reduceBEq, Int.reduceBEq, Int.reduceBNe, Int.reduceToNat, List.length_cons, List.length_nil, Nat.zero_add, i1]
 refine vloop (fun e S' => (e 0 = .ref vid 0 ∧ e 1 = .sl .no 4 (encWs [w]) ∧ e 2 = .sl .no 3 (encOs (P.map kOf)) ∧ e 7 = .ref lid 0 ∧ e 14 = .sl .no 4 (encWs [w]) ∧ e 15 = .int .i64 1) ∧ ((e 16 = .int .i64 0 ∧ S' = S1) ∨ (e 16 = .int .i64 1 ∧ addW w [] P = 0 ∧ ∃ gid, Vs S' lid [(w, gid)] P ∧ Vs S' vid T P ∧ Sub' S S'))) (fun e _ => 1 - iv (e 16)) ?_ ?_
 ·exact ⟨⟨by simp -implicitDefEqProofs only [go_sem, ↓reduceIte, Nat.reduceEqDiff], by simp -implicitDefEqProofs only [go_sem, ↓reduceIte, Nat.reduceEqDiff], by simp -implicitDefEqProofs only [go_sem, ↓reduceIte, Nat.reduceEqDiff], by simp -implicitDefEqProofs only [go_sem, ↓reduceIte, Nat.reduceEqDiff], by simp -implicitDefEqProofs only [go_sem, ↓reduceIte, Nat.reduceEqDiff], by simp -implicitDefEqProofs only [go_sem, ↓reduceIte, Nat.reduceEqDiff]⟩, .inl ⟨by simp -implicitDefEqProofs only [go_sem, ↓reduceIte, Nat.reduceEqDiff], rfl⟩⟩
 ·rintro J M Q' hJ hM hQ e S' ⟨⟨e0, e1, e2, e7, e14, e15⟩, hcase⟩
  rcases hcase with ⟨e16, rfl⟩ | ⟨e16, ha, gid, hv2, hv3, hsub3⟩
  ·have l01 : (0 : Int) < 1 := by decide
   have h1 : (0 : Int) ≤ 0 ∧ (0 : Int) < 1 := by decide
   have hg0 : (encWs [w]).getD 0 [] = [.str w.name, .int .i64 w.kind, .str w.field, .str w.of_] := rfl
   simp -implicitDefEqProofs only [go_sem, ↓reduceIte, Nat.reduceEqDiff, Nat.reduceLT, Nat.reduceLeDiff, Nat.reduceAdd, Nat.reduceMul, Nat.reduceSub, reduceCtorEq, Nat.reduceMod, Nat.reduceBEq, Int.reduceBEq, Int.reduceBNe, Int.reduceToNat, e2, e7, e14, e15, e16, l01, h1, Int.toNat_zero, hg0, List.length_cons, List.length_nil, Nat.zero_add, i1]
   refine VAdd_calls hlate (by decide) w hP hf hn _ ?_ ?_
   ·intro S2 hs2 hne
    rw [addE_W] at hne ⊢
    have d0 : (addW w [] P != 0) = true := by simpa using hne
    simp -implicitDefEqProofs only [go_sem, ↓reduceIte, Nat.reduceEqDiff, Nat.reduceLT, Nat.reduceLeDiff, Nat.reduceAdd, Nat.reduceMul, Nat.reduceSub, reduceCtorEq, Nat.reduceMod, Nat.reduceBEq, Int.reduceBEq, Int.reduceBNe, Int.reduceToNat, d0]
    refine hQ _ _ _ ?_
    simp -implicitDefEqProofs only [go_sem, ↓reduceIte, Nat.reduceEqDiff, Nat.reduceLT, Nat.reduceLeDiff, Nat.reduceAdd, Nat.reduceMul, Nat.reduceSub, reduceCtorEq, Nat.reduceMod, Nat.reduceBEq, Int.reduceBEq, Int.reduceBNe, Int.reduceToNat]
    exact ⟨_, fun _ _ h => h, hK _ T (fun id x _ hx => hs2 _ _ (hsub _ _ hx)) (by rw [if_neg (show ¬ addW w [] P = 0 from hne)]) (hv0.keep hs2)⟩
   ·intro S2 gid hfr ha hvs
    rw [addE_W] at ha
    have ha' : addW w [] P = 0 := ha
    rw [List.nil_append] at hvs
    have hv3 : Vs S2 vid T P := ⟨hfr _ _ hlv hv0.at_, fun u hu => by
     obtain ⟨kd, hkd⟩ := hv0.tabs u hu
     exact ⟨kd, hkd.keepM fun id cl st vs hq => hfr _ _ (fun he => hnm cl st vs (he ▸ hq)) hq⟩⟩
    have hsub3 : Sub' S S2 := fun id x hx => hfr _ _ (fun he => by rw [he, hl] at hx; cases hx) (hsub _ _ hx)
    simp -implicitDefEqProofs only [go_sem, ↓reduceIte, Nat.reduceEqDiff, Nat.reduceLT, Nat.reduceLeDiff, Nat.reduceAdd, Nat.reduceMul, Nat.reduceSub, reduceCtorEq, Nat.reduceMod, Nat.reduceBEq, Int.reduceBEq, Int.reduceBNe, Int.reduceToNat, n0, Bool.false_eq_true, e16, hw1]
    refine vnext hJ hM _ (fun _ _ h => h) ⟨⟨?_, ?_, ?_, ?_, ?_, ?_⟩, .inr ⟨?_, ha', gid, hvs, hv3, hsub3⟩⟩ ?_
    ·simp -implicitDefEqProofs only [go_sem, ↓reduceIte, Nat.reduceEqDiff, e0]
    ·simp -implicitDefEqProofs only [go_sem, ↓reduceIte, Nat.reduceEqDiff, e1]
    ·simp -implicitDefEqProofs only [go_sem, ↓reduceIte, Nat.reduceEqDiff, e2]
    ·simp -implicitDefEqProofs only [go_sem, ↓reduceIte, Nat.reduceEqDiff, e7]
    ·simp -implicitDefEqProofs only [go_sem, ↓reduceIte, Nat.reduceEqDiff, e14]
    ·simp -implicitDefEqProofs only [go_sem, ↓reduceIte, Nat.reduceEqDiff, e15]
    ·simp -implicitDefEqProofs only [go_sem, ↓reduceIte, Nat.reduceEqDiff]
    ·simp -implicitDefEqProofs only [go_sem, ↓reduceIte, Nat.reduceEqDiff, Nat.reduceLT, Nat.reduceLeDiff, Nat.reduceAdd, Nat.reduceMul, Nat.reduceSub, reduceCtorEq, Nat.reduceMod, Nat.reduceBEq, Int.reduceBEq, Int.reduceBNe, Int.reduceToNat, e16, Int.toNat_zero]
  ·have l11 : ¬ (1 : Int) < 1 := by decide
   simp -implicitDefEqProofs only [go_sem, ↓reduceIte, Nat.reduceEqDiff, Nat.reduceLT, Nat.reduceLeDiff, Nat.reduceAdd, Nat.reduceMul, Nat.reduceSub, reduceCtorEq, Nat.reduceMod, Nat.reduceBEq, Int.reduceBEq, Int.reduceBNe, Int.reduceToNat, e15, e16, l11]
   refine hQ _ _ _ ?_
   have hz := hK (S'.set vid (some [PV.sl .no 5 (encTs [(w, gid)]), .bool true])) [(w, gid)] (fun id x hne hx => by rw [Go.VL.set_ne hne]; exact hsub3 _ _ hx) (by rw [if_pos ha]; rfl) ⟨set_at _ _ _, fun t ht => by
    obtain ⟨kd, hkd⟩ := hv2.tabs t ht
    exact ⟨kd, hkd.keepM (keepM_set hv3.at_)⟩⟩
   rw [ha] at hz
   simp -implicitDefEqProofs only [go_sem, ↓reduceIte, Nat.reduceEqDiff, Nat.reduceLT, Nat.reduceLeDiff, Nat.reduceAdd, Nat.reduceMul, Nat.reduceSub, reduceCtorEq, Nat.reduceMod, Nat.reduceBEq, Int.reduceBEq, Int.reduceBNe, Int.reduceToNat, e0, e7, hv2.at_, hv3.at_, psplice]
   exact ⟨_, fun _ _ h => h, hz⟩
theorem VList_spec {S : Store} {vid : Nat} {T : WT} {P : List Pr} (h : Vs S vid T P) (hT : T.length ≤ 1000000) : PRet Tryz.prog 28 [.ref vid 0] S (.sl .tail 4 (encWs (T.map Prod.fst))) := by
 intro K hK
 refine pcalls_of (C := C) (fun d => d == 18 || d == 3 || d == 24 || d == 2) (fun _ => false) Tryz.func28 rfl rfl (by simp [Tryz.f28]) ?_
 simp -implicitDefEqProofs only [go_sem, ↓reduceIte, Nat.reduceEqDiff, Nat.reduceLT, Nat.reduceLeDiff, Nat.reduceAdd, Nat.reduceMul, Nat.reduceSub, reduceCtorEq, Nat.reduceMod, Nat.reduceBEq, Int.reduceBEq, Int.reduceBNe, Int.reduceToNat, Tryz.f28]
 refine dead_spec h _ ?_
 simp -implicitDefEqProofs only [go_sem, ↓reduceIte, Nat.reduceEqDiff, Nat.reduceLT, Nat.reduceLeDiff, Nat.reduceAdd, Nat.reduceMul, Nat.reduceSub, reduceCtorEq, Nat.reduceMod, Nat.reduceBEq, Int.reduceBEq, Int.reduceBNe, Int.reduceToNat, Bool.false_eq_true, h.at_]
 refine vloop (fun e S' => S' = S ∧ ∃ k : Nat, k ≤ T.length ∧ e 3 = .sl .tail 4 (encWs ((T.take k).map Prod.fst)) ∧ e 12 = .sl .no 5 (encTs T) ∧ e 13 = .int .i64 T.length ∧ e 14 = .int .i64 k) (fun e _ => T.length - iv (e 14)) ?_ ?_
 ·exact ⟨rfl, 0, Nat.zero_le _, by simp -implicitDefEqProofs only [go_sem, ↓reduceIte, Nat.reduceEqDiff]; rfl, by simp -implicitDefEqProofs only [go_sem, ↓reduceIte, Nat.reduceEqDiff], by simp -implicitDefEqProofs only [go_sem, ↓reduceIte, Nat.reduceEqDiff], by simp -implicitDefEqProofs only [go_sem, ↓reduceIte, Nat.reduceEqDiff]⟩
 ·rintro J M Q' hJ hM hQ e S' ⟨rfl, k, hk, e3, e12, e13, e14⟩
  by_cases hlt : k < T.length
  ·obtain ⟨t, ht⟩ : ∃ t, T[k]? = some t := ⟨T[k], List.getElem?_eq_getElem hlt⟩
   have hlti : (k : Int) < (T.length : Int) := by omega
   have h1 : (0 : Int) ≤ (k : Int) ∧ (k : Int) < (T.length : Int) := by omega
   have hw1 : IntKind.i64.wrap ((k : Int) + 1) = ((k + 1 : Nat) : Int) := wrap64 (by omega) (by omega)
   have hap : ((T.take k).length + 1) * 56 ≤ 140737488355328 ∧ (T.take k).length ≤ 140737488355327 := by rw [List.length_take]; omega
   have htk : encWs ((T.take k).map Prod.fst) ++ [[.str t.1.name, .int .i64 t.1.kind, .str t.1.field, .str t.1.of_]] = encWs ((T.take (k + 1)).map Prod.fst) := by
    rw [encWs_one, take_app1 ht, List.map_append]; rfl
   simp -implicitDefEqProofs only [go_sem, ↓reduceIte, Nat.reduceEqDiff, Nat.reduceLT, Nat.reduceLeDiff, Nat.reduceAdd, Nat.reduceMul, Nat.reduceSub, reduceCtorEq, Nat.reduceMod, Nat.reduceBEq, Int.reduceBEq, Int.reduceBNe, Int.reduceToNat, e3, e12, e13, e14, hlti, h1, Int.toNat_natCast, getD_encTs ht, List.length_map, hap, hw1, htk]
   refine vnext hJ hM S' (fun _ _ h => h) ⟨rfl, k + 1, hlt, ?_, ?_, ?_, ?_⟩ ?_
   ·simp -implicitDefEqProofs only [go_sem, ↓reduceIte, Nat.reduceEqDiff]
   ·simp -implicitDefEqProofs only [go_sem, ↓reduceIte, Nat.reduceEqDiff, e12]
   ·simp -implicitDefEqProofs only [go_sem, ↓reduceIte, Nat.reduceEqDiff, e13]
   ·simp -implicitDefEqProofs only [go_sem, ↓reduceIte, Nat.reduceEqDiff]
   ·simp -implicitDefEqProofs only [go_sem, ↓reduceIte, Nat.reduceEqDiff, e14, Int.toNat_natCast]
    omega
  ·have hnl : ¬ (k : Int) < (T.length : Int) := by omega
   rw [List.take_of_length_le (by omega)] at e3
   simp -implicitDefEqProofs only [go_sem, ↓reduceIte, Nat.reduceEqDiff, Nat.reduceLT, Nat.reduceLeDiff, Nat.reduceAdd, Nat.reduceMul, Nat.reduceSub, reduceCtorEq, Nat.reduceMod, Nat.reduceBEq, Int.reduceBEq, Int.reduceBNe, Int.reduceToNat, e13, e14, hnl]
   refine hQ _ _ _ ?_
   simp -implicitDefEqProofs only [go_sem, ↓reduceIte, Nat.reduceEqDiff, Nat.reduceLT, Nat.reduceLeDiff, Nat.reduceAdd, Nat.reduceMul, Nat.reduceSub, reduceCtorEq, Nat.reduceMod, Nat.reduceBEq, Int.reduceBEq, Int.reduceBNe, Int.reduceToNat, e3]
   exact ⟨S', fun _ _ h => h, hK⟩
end Go.Proofs.YtdioedabjaaboaaGreat.V
