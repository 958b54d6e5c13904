/- Views: views tell what they would of the map, asked anew; and what befalls does. -/
import Derived.Test.YtdioedabjaaboaaGreatYP
set_option linter.unusedVariables false
set_option linter.unusedSimpArgs false
namespace Go.Proofs.YtdioedabjaaboaaGreat.V
open Go Go.VL

theorem VRowsM_at {S : Store} {vid : Nat} {T : WT} {P : List Pr} (h : Vs S vid T P) (hT : T.length ≤ 1000000) (hP : P.length ≤ 1000000) (hf : FitK P) (hn : (P.map Prod.fst).Nodup) (name : ByteArray) {j : Nat} (hw : whereF name T 0 = (j : Int)) {t : Wv × Nat} (ht : T[j]? = some t) (K : PV → Store → Prop)
  (hK : ∀ S' f, KeysAt S S' f (if t.1.kind = 1 then texts t.1 P else []) (keysG t.1 P) → K (.tup [.sl .no 3 (encRMs t.1 P f (texts t.1 P)), .int .i64 0]) S') :
  PCalls Tryz.prog 43 [.ref vid 0, .str name] S K := by
 obtain ⟨kd, hkd⟩ := h.tabs t (List.mem_of_getElem? ht)
 have hlt : j < T.length := (List.getElem?_eq_some_iff.1 ht).1
 have hj : ¬ (j : Int) < 0 := by omega
 have h0 : (0 : Int) ≤ (j : Int) ∧ (j : Int) < (T.length : Int) := by omega
 refine pcalls_of (C := C) (fun _ => false) (fun _ => false) Tryz.func43 rfl rfl (by simp [Tryz.f43]) ?_
 simp -implicitDefEqProofs only [go_sem, ↓reduceIte, Nat.reduceEqDiff, Nat.reduceLT, Nat.reduceLeDiff, Nat.reduceAdd, Nat.reduceMul, Nat.reduceSub, reduceCtorEq, Nat.reduceMod, Nat.reduceBEq, Int.reduceBEq, Int.reduceBNe, Int.reduceToNat, Tryz.f43]
 refine dead_spec h _ ?_
 simp -implicitDefEqProofs only [go_sem, ↓reduceIte, Nat.reduceEqDiff, Nat.reduceLT, Nat.reduceLeDiff, Nat.reduceAdd, Nat.reduceMul, Nat.reduceSub, reduceCtorEq, Nat.reduceMod, Nat.reduceBEq, Int.reduceBEq, Int.reduceBNe, Int.reduceToNat, Bool.false_eq_true]
 refine VFind_spec h hT name _ ?_
 rw [hw]
 simp -implicitDefEqProofs only [go_sem, ↓reduceIte, Nat.reduceEqDiff, Nat.reduceLT, Nat.reduceLeDiff, Nat.reduceAdd, Nat.reduceMul, Nat.reduceSub, reduceCtorEq, Nat.reduceMod, Nat.reduceBEq, Int.reduceBEq, Int.reduceBNe, Int.reduceToNat, hj, h.at_, h0, Int.toNat_natCast, getD_encTs ht]
 refine rowsM_calls hkd hP hf hn _ ?_
 intro S' f hka
 simp -implicitDefEqProofs only [go_sem, ↓reduceIte, Nat.reduceEqDiff, Nat.reduceLT, Nat.reduceLeDiff, Nat.reduceAdd, Nat.reduceMul, Nat.reduceSub, reduceCtorEq, Nat.reduceMod, Nat.reduceBEq, Int.reduceBEq, Int.reduceBNe, Int.reduceToNat]
 exact ⟨S', fun _ _ h => h, hK S' f hka⟩
theorem rowsOf_texts (w : Wv) (P : List Pr) : rowsOf w P = (texts w P).map (rowOf w P) := rfl
theorem SameM_spec {S : Store} (w : Wv) (P : List Pr) (hP : P.length ≤ 1000000) (f : ByteArray → Nat) (hk : w.kind = 1 → ∀ g ∈ texts w P, S (f g) = some (cellsS (keysG w P g))) :
  PRet Tryz.prog 15 [.sl .no 3 (encRMs w P f (texts w P)), .sl .no 3 (encRVs (rowsOf w P))] S (.bool true) := by
 refine PRet.borrow (args' := [.sl .no 3 (encRVs (rowsOf w P)), .sl .no 3 (encRVs (rowsOf w P))]) (Same_spec _ (Nat.le_trans (rowsOf_len' w P) hP) (fun r hr => Nat.le_trans (rowsOf_keys' w P r hr) hP) _) rfl rfl ?_
 intro k p q hp hq
 have hz : Fz S (.sl .no 3 (encRMs w P f (texts w P))) (.sl .no 3 (encRVs (rowsOf w P))) := by
  have row : ∀ (j : Nat) (c c' : List PV), (encRMs w P f (texts w P))[j]? = some c → (encRVs (rowsOf w P))[j]? = some c' → ∃ g ∈ texts w P, c = encRM f (decide (w.kind = 1)) (rowOf w P g) ∧ c' = encRV (rowOf w P g) := by
   intro j c c' h1 h2
   rw [rowsOf_texts] at h2
   unfold encRMs at h1
   unfold encRVs at h2
   rw [List.getElem?_map] at h1
   rw [List.getElem?_map, List.getElem?_map] at h2
   cases hx : (texts w P)[j]? with
   | none => rw [hx] at h1; cases h1
   | some g =>
    rw [hx] at h1 h2
    injection h1 with h1
    injection h2 with h2
    exact ⟨g, List.mem_of_getElem? hx, h1.symm, h2.symm⟩
  refine .sl ?_ ?_ ?_
  ·rw [len_encRMs, len_encRVs, rowsOf_texts, List.length_map]
  ·intro j c c' h1 h2
   obtain ⟨g, _, rfl, rfl⟩ := row j c c' h1 h2
   rfl
  ·intro j c c' k v v' h1 h2 h3 h4
   obtain ⟨g, hg, rfl, rfl⟩ := row j c c' h1 h2
   unfold encRM at h3
   unfold encRV at h4
   match k with
   | 0 => simp only [List.getElem?_cons_zero, Option.some.injEq] at h3 h4; subst h3; subst h4; exact .refl _
   | 1 =>
    simp only [List.getElem?_cons_succ, List.getElem?_cons_zero, Option.some.injEq] at h3 h4
    subst h3; subst h4
    by_cases k1 : w.kind = 1
    ·rw [if_pos (by rw [decide_eq_true k1])]
     have hkeys : (rowOf w P g).keys = keysG w P g := by unfold rowOf keysG; simp only [if_pos k1]
     have htx : (rowOf w P g).text = g := rfl
     rw [hkeys, htx]
     refine .arr (hk k1 g hg) (len_encS _) ?_ (fun j _ => (cellsS (keysG w P g)).getD j .undef) ?_ ?_
     ·intro j c hj
      unfold encS at hj
      rw [List.getElem?_map] at hj
      cases hx : (keysG w P g)[j]? with
      | none => rw [hx] at hj; cases hj
      | some x => rw [hx] at hj; injection hj with hj; rw [← hj]; rfl
     ·intro j c k v hj hkv
      unfold encS at hj
      rw [List.getElem?_map] at hj
      cases hx : (keysG w P g)[j]? with
      | none => rw [hx] at hj; cases hj
      | some x =>
       rw [hx] at hj; injection hj with hj; subst hj
       cases k with
       | zero =>
        have hc : (cellsS (keysG w P g))[j]? = some (.str x) := by unfold cellsS; rw [List.getElem?_map, hx]; rfl
        rw [show 0 + (j * 1 + 0) = j by omega, hc, List.getD_eq_getElem?_getD, hc]
        rfl
       | succ n => simp at hkv
     ·intro j c k v hj hkv
      unfold encS at hj
      rw [List.getElem?_map] at hj
      cases hx : (keysG w P g)[j]? with
      | none => rw [hx] at hj; cases hj
      | some x =>
       rw [hx] at hj; injection hj with hj; subst hj
       cases k with
       | zero =>
        simp only [List.getElem?_cons_zero, Option.some.injEq] at hkv
        subst hkv
        have hc : (cellsS (keysG w P g))[j]? = some (.str x) := by unfold cellsS; rw [List.getElem?_map, hx]; rfl
        rw [List.getD_eq_getElem?_getD, hc]
        exact .refl _
       | succ n => simp at hkv
    ·rw [if_neg (by rw [decide_eq_false k1]; decide)]
     have hkeys : (rowOf w P g).keys = [] := by unfold rowOf; simp only [if_neg k1]
     rw [hkeys]
     exact .refl _
   | 2 => simp only [List.getElem?_cons_succ, List.getElem?_cons_zero, Option.some.injEq] at h3 h4; subst h3; subst h4; exact .refl _
   | k + 3 => simp at h3
 match k with
 | 0 => simp only [List.getElem?_cons_zero, Option.some.injEq] at hp hq; subst hp; subst hq; exact ⟨hz, rfl⟩
 | 1 => simp only [List.getElem?_cons_succ, List.getElem?_cons_zero, Option.some.injEq] at hp hq; subst hp; subst hq; exact ⟨.refl _, rfl⟩
 | k + 2 => simp at hp
structure GoodW (ws : List Wv) (L : List Pr) : Prop where
 ok : ∀ w ∈ ws, vcheck w = 0 ∧ fitsQ w L = true ∧ FitW w
 nd : (ws.map Wv.name).Nodup
theorem getD_encRMs {w : Wv} {P : List Pr} {f : ByteArray → Nat} {T : List ByteArray} {k : Nat} {g : ByteArray} (h : T[k]? = some g) : (encRMs w P f T).getD k [] = [.str g, if decide (w.kind = 1) = true then .arr .no (f g) 0 (rowOf w P g).keys.length 1 else .sl .no 1 [], .int .i64 (rowOf w P g).n] := by
 unfold encRMs
 simp only [List.getD_eq_getElem?_getD, List.getElem?_map, h]
 rfl
set_option maxHeartbeats 8000000 in
theorem told_calls {S : Store} {mid vid : Nat} {L : List Pr} {T : WT} {t : V.T} (h : Ps S mid vid L T t) (hg : GoodW (T.map Prod.fst) L) (K : PV → Store → Prop) (hK : ∀ S', Sub' S S' → K (.bool true) S') :
  PCalls Tryz.prog 30 [encPair mid vid] S K := by
 have hkm := h.km
 have hli := h.list
 have hnd : (L.map Prod.fst).Nodup := sorted_nodup (h.list ▸ h.km.2.2)
 have hL : L.length ≤ 1000000 := by have := h.len; omega
 have hfew := h.few
 refine pcalls_of (C := C) (fun _ => false) (fun _ => false) Tryz.func30 rfl rfl (by simp [Tryz.f30]) ?_
 unfold encPair
 simp -implicitDefEqProofs only [go_sem, ↓reduceIte, Nat.reduceEqDiff, Nat.reduceLT, Nat.reduceLeDiff, Nat.reduceAdd, Nat.reduceMul, Nat.reduceSub, reduceCtorEq, Nat.reduceMod, Nat.reduceBEq, Int.reduceBEq, Int.reduceBNe, Int.reduceToNat, Tryz.f30]
 refine KScan_spec hkm (by rw [hli]; exact hL) _ _ _ ?_
 rw [hli, rangeL_all]
 simp -implicitDefEqProofs only [go_sem, ↓reduceIte, Nat.reduceEqDiff, Nat.reduceLT, Nat.reduceLeDiff, Nat.reduceAdd, Nat.reduceMul, Nat.reduceSub, reduceCtorEq, Nat.reduceMod, Nat.reduceBEq, Int.reduceBEq, Int.reduceBNe, Int.reduceToNat]
 refine VList_spec h.vs h.few _ ?_
 simp -implicitDefEqProofs only [go_sem, ↓reduceIte, Nat.reduceEqDiff, Nat.reduceLT, Nat.reduceLeDiff, Nat.reduceAdd, Nat.reduceMul, Nat.reduceSub, reduceCtorEq, Nat.reduceMod, Nat.reduceBEq, Int.reduceBEq, Int.reduceBNe, Int.reduceToNat, List.length_map]
 refine vloop (fun e S' => Sub' S S' ∧ ∃ k : Nat, k ≤ T.length ∧ e 1 = .ip [.ref mid 0, .ref vid 0] 0 ∧ e 3 = .sl .no 3 (encOs (L.map kOf)) ∧ e 17 = .sl .tail 4 (encWs (T.map Prod.fst)) ∧ e 18 = .int .i64 T.length ∧ e 19 = .int .i64 k) (fun e _ => T.length - iv (e 19)) ?_ ?_
 ·exact ⟨fun _ _ h => h, 0, Nat.zero_le _, by simp -implicitDefEqProofs only [go_sem, ↓reduceIte, Nat.reduceEqDiff], by simp -implicitDefEqProofs only [go_sem, ↓reduceIte, Nat.reduceEqDiff], by simp -implicitDefEqProofs only [go_sem, ↓reduceIte, Nat.reduceEqDiff], by simp -implicitDefEqProofs only [go_sem, ↓reduceIte, Nat.reduceEqDiff], by simp -implicitDefEqProofs only [go_sem, ↓reduceIte, Nat.reduceEqDiff]⟩
 ·rintro J M Q' hJ hM hQ e S1 ⟨hsub, k, hk, e1, e3, e17, e18, e19⟩
  by_cases hlt : k < T.length
  ·obtain ⟨u, hu⟩ : ∃ u, T[k]? = some u := ⟨T[k], List.getElem?_eq_getElem hlt⟩
   have hu' : (T.map Prod.fst)[k]? = some u.1 := by rw [List.getElem?_map, hu]; rfl
   obtain ⟨g1, g2, g3⟩ := hg.ok u.1 (List.mem_of_getElem? hu')
   have hlti : (k : Int) < (T.length : Int) := by omega
   have h1 : (0 : Int) ≤ (k : Int) ∧ (k : Int) < (T.length : Int) := by omega
   have hw1 : IntKind.i64.wrap ((k : Int) + 1) = ((k + 1 : Nat) : Int) := wrap64 (by omega) (by omega)
   have hwh : whereF u.1.name T 0 = (k : Int) := by rw [whereF_W, whereW_at hg.nd hu', Nat.zero_add]
   have hvs : Vs S1 vid T L := h.vs.keep hsub
   simp -implicitDefEqProofs only [go_sem, ↓reduceIte, Nat.reduceEqDiff, Nat.reduceLT, Nat.reduceLeDiff, Nat.reduceAdd, Nat.reduceMul, Nat.reduceSub, reduceCtorEq, Nat.reduceMod, Nat.reduceBEq, Int.reduceBEq, Int.reduceBNe, Int.reduceToNat, e1, e17, e18, e19, hlti, h1, Int.toNat_natCast, getD_encWs hu', List.length_map]
   refine VRowsM_at hvs h.few hL h.fit hnd u.1.name hwh hu _ ?_
   intro S2 f hka
   simp -implicitDefEqProofs only [go_sem, ↓reduceIte, Nat.reduceEqDiff, Nat.reduceLT, Nat.reduceLeDiff, Nat.reduceAdd, Nat.reduceMul, Nat.reduceSub, reduceCtorEq, Nat.reduceMod, Nat.reduceBEq, Int.reduceBEq, Int.reduceBNe, Int.reduceToNat, e3]
   refine ROf_pv u.1 g3 L hL h.fit hnd _ _ ?_
   have hof : ofV u.1 L = (rowsOf u.1 L, 0) := by unfold ofV; rw [if_pos g1, if_pos g2]
   rw [hof]
   unfold encOf
   simp -implicitDefEqProofs only [go_sem, ↓reduceIte, Nat.reduceEqDiff, Nat.reduceLT, Nat.reduceLeDiff, Nat.reduceAdd, Nat.reduceMul, Nat.reduceSub, reduceCtorEq, Nat.reduceMod, Nat.reduceBEq, Int.reduceBEq, Int.reduceBNe, Int.reduceToNat, n0]
   refine SameM_spec u.1 L hL f (fun k1 g hgm => by have := hka.new; rw [if_pos k1] at this; exact (this g hgm).2) _ ?_
   have hSf : u.1.kind = 1 → ∀ g ∈ texts u.1 L, S (f g) = none := fun k1 g hgm => by
    have h2 := hka.new
    rw [if_pos k1] at h2
    cases hs : S (f g) with
    | none => rfl
    | some c =>
     have h3 := (h2 g hgm).1
     rw [hsub _ _ hs] at h3
     cases h3
   have hinj : u.1.kind = 1 → ∀ g ∈ texts u.1 L, ∀ g' ∈ texts u.1 L, f g = f g' → g = g' := fun k1 => by have := hka.inj; rw [if_pos k1] at this; exact this
   have hst0 : Sub' S S2 ∧ (u.1.kind = 1 → ∀ g ∈ texts u.1 L, ∃ cells, S2 (f g) = some cells ∧ cells.length = (rowOf u.1 L g).keys.length) := by
    refine ⟨fun id x hx => hka.old _ _ (hsub _ _ hx), fun k1 g hgm => ?_⟩
    have h2 := hka.new
    rw [if_pos k1] at h2
    refine ⟨_, (h2 g hgm).2, ?_⟩
    unfold cellsS keysG rowOf
    simp only [if_pos k1, List.length_map]
   have hTl : (texts u.1 L).length ≤ 1000000 := by have := rowsOf_len' u.1 L; rw [rowsOf_texts, List.length_map] at this; omega
   have hkl : ∀ g ∈ texts u.1 L, (rowOf u.1 L g).keys.length ≤ 1000000 := fun g hgm => Nat.le_trans (rowsOf_keys' u.1 L _ (by rw [rowsOf_texts]; exact List.mem_map.2 ⟨g, hgm, rfl⟩)) hL
   obtain ⟨R, hR⟩ : ∃ R, R = texts u.1 L := ⟨_, rfl⟩
   rw [← hR] at hSf hinj hst0 hTl hkl ⊢
   simp -implicitDefEqProofs only [go_sem, ↓reduceIte, Nat.reduceEqDiff, Nat.reduceLT, Nat.reduceLeDiff, Nat.reduceAdd, Nat.reduceMul, Nat.reduceSub, reduceCtorEq, Nat.reduceMod, Nat.reduceBEq, Int.reduceBEq, Int.reduceBNe, Int.reduceToNat, Bool.not_true, Bool.false_eq_true, e1, e17, e18, e19]
   refine vloop (fun e S' => (Sub' S S' ∧ (u.1.kind = 1 → ∀ g ∈ R, ∃ cells, S' (f g) = some cells ∧ cells.length = (rowOf u.1 L g).keys.length)) ∧ ∃ i : Nat, i ≤ R.length ∧ e 1 = .ip [.ref mid 0, .ref vid 0] 0 ∧ e 3 = .sl .no 3 (encOs (L.map kOf)) ∧ e 6 = .sl .no 3 (encRMs u.1 L f R) ∧ e 17 = .sl .tail 4 (encWs (T.map Prod.fst)) ∧ e 18 = .int .i64 T.length ∧ e 19 = .int .i64 k ∧ e 50 = .int .i64 R.length ∧ e 51 = .int .i64 i) (fun e _ => R.length - iv (e 51)) ?_ ?_
   ·exact ⟨hst0, 0, Nat.zero_le _, by simp -implicitDefEqProofs only [go_sem, ↓reduceIte, Nat.reduceEqDiff, e1], by simp -implicitDefEqProofs only [go_sem, ↓reduceIte, Nat.reduceEqDiff, e3], by simp -implicitDefEqProofs only [go_sem, ↓reduceIte, Nat.reduceEqDiff], by simp -implicitDefEqProofs only [go_sem, ↓reduceIte, Nat.reduceEqDiff, e17], by simp -implicitDefEqProofs only [go_sem, ↓reduceIte, Nat.reduceEqDiff, e18], by simp -implicitDefEqProofs only [go_sem, ↓reduceIte, Nat.reduceEqDiff, e19], by simp -implicitDefEqProofs only [go_sem, ↓reduceIte, Nat.reduceEqDiff], by simp -implicitDefEqProofs only [go_sem, ↓reduceIte, Nat.reduceEqDiff]⟩
   ·have e19o := e19
    clear e1 e3 e17 e18 e19 hka hst0 hvs
    rintro J2 M2 Q2 hJ2 hM2 hQ2 e2 S3 ⟨hst, i, hi, e1, e3, e6, e17, e18, e19, e50, e51⟩
    by_cases hlt2 : i < R.length
    ·obtain ⟨g, hgi⟩ : ∃ g, R[i]? = some g := ⟨R[i], List.getElem?_eq_getElem hlt2⟩
     have hgR := List.mem_of_getElem? hgi
     have hlti2 : (i : Int) < (R.length : Int) := by omega
     have h2 : (0 : Int) ≤ (i : Int) ∧ (i : Int) < (R.length : Int) := by omega
     have hw2 : IntKind.i64.wrap ((i : Int) + 1) = ((i + 1 : Nat) : Int) := wrap64 (by omega) (by omega)
     by_cases k1 : u.1.kind = 1
     ·have hrow : (encRMs u.1 L f R).getD i [] = [.str g, .arr .no (f g) 0 (rowOf u.1 L g).keys.length 1, .int .i64 (rowOf u.1 L g).n] := by rw [getD_encRMs hgi, if_pos (by rw [decide_eq_true k1])]
      have hkg := hkl g hgR
      obtain ⟨n, hn⟩ : ∃ n, n = (rowOf u.1 L g).keys.length := ⟨_, rfl⟩
      rw [← hn] at hrow hkg
      simp -implicitDefEqProofs only [go_sem, ↓reduceIte, Nat.reduceEqDiff, Nat.reduceLT, Nat.reduceLeDiff, Nat.reduceAdd, Nat.reduceMul, Nat.reduceSub, reduceCtorEq, Nat.reduceMod, Nat.reduceBEq, Int.reduceBEq, Int.reduceBNe, Int.reduceToNat, e6, e50, e51, hlti2, h2, Int.toNat_natCast, hrow]
      refine vloop (fun e S' => (Sub' S S' ∧ (u.1.kind = 1 → ∀ g ∈ R, ∃ cells, S' (f g) = some cells ∧ cells.length = (rowOf u.1 L g).keys.length)) ∧ ∃ m : Nat, m ≤ n ∧ e 1 = .ip [.ref mid 0, .ref vid 0] 0 ∧ e 3 = .sl .no 3 (encOs (L.map kOf)) ∧ e 6 = .sl .no 3 (encRMs u.1 L f R) ∧ e 10 = .int .i64 i ∧ e 17 = .sl .tail 4 (encWs (T.map Prod.fst)) ∧ e 18 = .int .i64 T.length ∧ e 19 = .int .i64 k ∧ e 50 = .int .i64 R.length ∧ e 51 = .int .i64 i ∧ e 59 = .int .i64 n ∧ e 60 = .int .i64 m) (fun e _ => n - iv (e 60)) ?_ ?_
      ·exact ⟨hst, 0, Nat.zero_le _, by simp -implicitDefEqProofs only [go_sem, ↓reduceIte, Nat.reduceEqDiff, e1], by simp -implicitDefEqProofs only [go_sem, ↓reduceIte, Nat.reduceEqDiff, e3], by simp -implicitDefEqProofs only [go_sem, ↓reduceIte, Nat.reduceEqDiff, e6], by simp -implicitDefEqProofs only [go_sem, ↓reduceIte, Nat.reduceEqDiff], by simp -implicitDefEqProofs only [go_sem, ↓reduceIte, Nat.reduceEqDiff, e17], by simp -implicitDefEqProofs only [go_sem, ↓reduceIte, Nat.reduceEqDiff, e18], by simp -implicitDefEqProofs only [go_sem, ↓reduceIte, Nat.reduceEqDiff, e19], by simp -implicitDefEqProofs only [go_sem, ↓reduceIte, Nat.reduceEqDiff, e50], by simp -implicitDefEqProofs only [go_sem, ↓reduceIte, Nat.reduceEqDiff, e51], by simp -implicitDefEqProofs only [go_sem, ↓reduceIte, Nat.reduceEqDiff], by simp -implicitDefEqProofs only [go_sem, ↓reduceIte, Nat.reduceEqDiff]⟩
      ·have e51o := e51
       clear e1 e3 e6 e17 e18 e19 e50 e51 hst
       rintro J3 M3 Q3 hJ3 hM3 hQ3 e4 S4 ⟨hst, m, hm, f1, f3, f6, f10, f17, f18, f19, f50, f51, f59, f60⟩
       by_cases hlt3 : m < n
       ·obtain ⟨cells, hc, hcl⟩ := hst.2 k1 g hgR
        have hlti3 : (m : Int) < (n : Int) := by omega
        have h3 : (0 : Int) ≤ (m : Int) ∧ (m : Int) < (n : Int) := by omega
        have hw3 : IntKind.i64.wrap ((m : Int) + 1) = ((m + 1 : Nat) : Int) := wrap64 (by omega) (by omega)
        simp -implicitDefEqProofs only [go_sem, ↓reduceIte, Nat.reduceEqDiff, Nat.reduceLT, Nat.reduceLeDiff, Nat.reduceAdd, Nat.reduceMul, Nat.reduceSub, reduceCtorEq, Nat.reduceMod, Nat.reduceBEq, Int.reduceBEq, Int.reduceBNe, Int.reduceToNat, f6, f10, f59, f60, hlti3, h2, h3, Int.toNat_natCast, hrow, hc, Nat.mul_one, Nat.zero_add, hw3]
        refine ⟨by omega, ?_⟩
        refine vnext hJ3 hM3 _ (fun _ _ h => h) ⟨⟨?_, ?_⟩, m + 1, hlt3, ?_, ?_, ?_, ?_, ?_, ?_, ?_, ?_, ?_, ?_, ?_⟩ ?_
        ·intro id x hx
         simp only [Store.set]
         split
         ·rename_i hid
          rw [hid, hSf k1 g hgR] at hx
          cases hx
         ·exact hst.1 id x hx
        ·intro _ g' hg'
         by_cases hgg : f g' = f g
         ·have := hinj k1 g' hg' g hgR hgg
          subst this
          refine ⟨_, set_at .., ?_⟩
          rw [← hcl]
          have hmc : m < cells.length := by rw [hcl, ← hn]; exact hlt3
          simp only [List.length_append, List.length_take, List.length_drop, List.length_cons, List.length_nil]
          omega
         ·simp only [Store.set, if_neg hgg]
          exact hst.2 k1 g' hg'
        ·simp -implicitDefEqProofs only [go_sem, ↓reduceIte, Nat.reduceEqDiff, f1]
        ·simp -implicitDefEqProofs only [go_sem, ↓reduceIte, Nat.reduceEqDiff, f3]
        ·simp -implicitDefEqProofs only [go_sem, ↓reduceIte, Nat.reduceEqDiff, f6]
        ·simp -implicitDefEqProofs only [go_sem, ↓reduceIte, Nat.reduceEqDiff, f10]
        ·simp -implicitDefEqProofs only [go_sem, ↓reduceIte, Nat.reduceEqDiff, f17]
        ·simp -implicitDefEqProofs only [go_sem, ↓reduceIte, Nat.reduceEqDiff, f18]
        ·simp -implicitDefEqProofs only [go_sem, ↓reduceIte, Nat.reduceEqDiff, f19]
        ·simp -implicitDefEqProofs only [go_sem, ↓reduceIte, Nat.reduceEqDiff, f50]
        ·simp -implicitDefEqProofs only [go_sem, ↓reduceIte, Nat.reduceEqDiff, f51]
        ·simp -implicitDefEqProofs only [go_sem, ↓reduceIte, Nat.reduceEqDiff, f59]
        ·simp -implicitDefEqProofs only [go_sem, ↓reduceIte, Nat.reduceEqDiff]
        ·simp -implicitDefEqProofs only [go_sem, ↓reduceIte, Nat.reduceEqDiff, f60, Int.toNat_natCast]
         omega
       ·have hnl3 : ¬ (m : Int) < (n : Int) := by omega
        simp -implicitDefEqProofs only [go_sem, ↓reduceIte, Nat.reduceEqDiff, Nat.reduceLT, Nat.reduceLeDiff, Nat.reduceAdd, Nat.reduceMul, Nat.reduceSub, reduceCtorEq, Nat.reduceMod, Nat.reduceBEq, Int.reduceBEq, Int.reduceBNe, Int.reduceToNat, f59, f60, hnl3]
        refine hQ3 _ _ _ ?_
        simp -implicitDefEqProofs only [go_sem, ↓reduceIte, Nat.reduceEqDiff, Nat.reduceLT, Nat.reduceLeDiff, Nat.reduceAdd, Nat.reduceMul, Nat.reduceSub, reduceCtorEq, Nat.reduceMod, Nat.reduceBEq, Int.reduceBEq, Int.reduceBNe, Int.reduceToNat, f51, hw2]
        refine vnext hJ2 hM2 S4 (fun _ _ h => h) ⟨hst, i + 1, hlt2, ?_, ?_, ?_, ?_, ?_, ?_, ?_, ?_⟩ ?_
        ·simp -implicitDefEqProofs only [go_sem, ↓reduceIte, Nat.reduceEqDiff, f1]
        ·simp -implicitDefEqProofs only [go_sem, ↓reduceIte, Nat.reduceEqDiff, f3]
        ·simp -implicitDefEqProofs only [go_sem, ↓reduceIte, Nat.reduceEqDiff, f6]
        ·simp -implicitDefEqProofs only [go_sem, ↓reduceIte, Nat.reduceEqDiff, f17]
        ·simp -implicitDefEqProofs only [go_sem, ↓reduceIte, Nat.reduceEqDiff, f18]
        ·simp -implicitDefEqProofs only [go_sem, ↓reduceIte, Nat.reduceEqDiff, f19]
        ·simp -implicitDefEqProofs only [go_sem, ↓reduceIte, Nat.reduceEqDiff, f50]
        ·simp -implicitDefEqProofs only [go_sem, ↓reduceIte, Nat.reduceEqDiff]
        ·simp -implicitDefEqProofs only [go_sem, ↓reduceIte, Nat.reduceEqDiff, e51o, Int.toNat_natCast]
         omega
     ·have hrow : (encRMs u.1 L f R).getD i [] = [.str g, .sl .no 1 [], .int .i64 (rowOf u.1 L g).n] := by rw [getD_encRMs hgi, if_neg (by rw [decide_eq_false k1]; decide)]
      simp -implicitDefEqProofs only [go_sem, ↓reduceIte, Nat.reduceEqDiff, Nat.reduceLT, Nat.reduceLeDiff, Nat.reduceAdd, Nat.reduceMul, Nat.reduceSub, reduceCtorEq, Nat.reduceMod, Nat.reduceBEq, Int.reduceBEq, Int.reduceBNe, Int.reduceToNat, e6, e50, e51, hlti2, h2, Int.toNat_natCast, hrow]
      refine vloop (fun e S' => S' = S3 ∧ e 1 = .ip [.ref mid 0, .ref vid 0] 0 ∧ e 3 = .sl .no 3 (encOs (L.map kOf)) ∧ e 6 = .sl .no 3 (encRMs u.1 L f R) ∧ e 17 = .sl .tail 4 (encWs (T.map Prod.fst)) ∧ e 18 = .int .i64 T.length ∧ e 19 = .int .i64 k ∧ e 50 = .int .i64 R.length ∧ e 51 = .int .i64 i ∧ e 59 = .int .i64 0 ∧ e 60 = .int .i64 0) (fun e _ => 0) ?_ ?_
      ·exact ⟨rfl, by simp -implicitDefEqProofs only [go_sem, ↓reduceIte, Nat.reduceEqDiff, e1], by simp -implicitDefEqProofs only [go_sem, ↓reduceIte, Nat.reduceEqDiff, e3], by simp -implicitDefEqProofs only [go_sem, ↓reduceIte, Nat.reduceEqDiff, e6], by simp -implicitDefEqProofs only [go_sem, ↓reduceIte, Nat.reduceEqDiff, e17], by simp -implicitDefEqProofs only [go_sem, ↓reduceIte, Nat.reduceEqDiff, e18], by simp -implicitDefEqProofs only [go_sem, ↓reduceIte, Nat.reduceEqDiff, e19], by simp -implicitDefEqProofs only [go_sem, ↓reduceIte, Nat.reduceEqDiff, e50], by simp -implicitDefEqProofs only [go_sem, ↓reduceIte, Nat.reduceEqDiff, e51], by simp -implicitDefEqProofs only [go_sem, ↓reduceIte, Nat.reduceEqDiff], by simp -implicitDefEqProofs only [go_sem, ↓reduceIte, Nat.reduceEqDiff]⟩
      ·have e51o := e51
       clear e1 e3 e6 e17 e18 e19 e50 e51
       rintro J3 M3 Q3 hJ3 hM3 hQ3 e4 S4 ⟨rfl, f1, f3, f6, f17, f18, f19, f50, f51, f59, f60⟩
       simp -implicitDefEqProofs only [go_sem, ↓reduceIte, Nat.reduceEqDiff, Nat.reduceLT, Nat.reduceLeDiff, Nat.reduceAdd, Nat.reduceMul, Nat.reduceSub, reduceCtorEq, Nat.reduceMod, Nat.reduceBEq, Int.reduceBEq, Int.reduceBNe, Int.reduceToNat, f59, f60]
       refine hQ3 _ _ _ ?_
       simp -implicitDefEqProofs only [go_sem, ↓reduceIte, Nat.reduceEqDiff, Nat.reduceLT, Nat.reduceLeDiff, Nat.reduceAdd, Nat.reduceMul, Nat.reduceSub, reduceCtorEq, Nat.reduceMod, Nat.reduceBEq, Int.reduceBEq, Int.reduceBNe, Int.reduceToNat, f51, hw2]
       refine vnext hJ2 hM2 _ (fun _ _ h => h) ⟨hst, i + 1, hlt2, ?_, ?_, ?_, ?_, ?_, ?_, ?_, ?_⟩ ?_
       ·simp -implicitDefEqProofs only [go_sem, ↓reduceIte, Nat.reduceEqDiff, f1]
       ·simp -implicitDefEqProofs only [go_sem, ↓reduceIte, Nat.reduceEqDiff, f3]
       ·simp -implicitDefEqProofs only [go_sem, ↓reduceIte, Nat.reduceEqDiff, f6]
       ·simp -implicitDefEqProofs only [go_sem, ↓reduceIte, Nat.reduceEqDiff, f17]
       ·simp -implicitDefEqProofs only [go_sem, ↓reduceIte, Nat.reduceEqDiff, f18]
       ·simp -implicitDefEqProofs only [go_sem, ↓reduceIte, Nat.reduceEqDiff, f19]
       ·simp -implicitDefEqProofs only [go_sem, ↓reduceIte, Nat.reduceEqDiff, f50]
       ·simp -implicitDefEqProofs only [go_sem, ↓reduceIte, Nat.reduceEqDiff]
       ·simp -implicitDefEqProofs only [go_sem, ↓reduceIte, Nat.reduceEqDiff, e51o, Int.toNat_natCast]
        omega
    ·have hnl2 : ¬ (i : Int) < (R.length : Int) := by omega
     simp -implicitDefEqProofs only [go_sem, ↓reduceIte, Nat.reduceEqDiff, Nat.reduceLT, Nat.reduceLeDiff, Nat.reduceAdd, Nat.reduceMul, Nat.reduceSub, reduceCtorEq, Nat.reduceMod, Nat.reduceBEq, Int.reduceBEq, Int.reduceBNe, Int.reduceToNat, e50, e51, hnl2]
     refine hQ2 _ _ _ ?_
     simp -implicitDefEqProofs only [go_sem, ↓reduceIte, Nat.reduceEqDiff, Nat.reduceLT, Nat.reduceLeDiff, Nat.reduceAdd, Nat.reduceMul, Nat.reduceSub, reduceCtorEq, Nat.reduceMod, Nat.reduceBEq, Int.reduceBEq, Int.reduceBNe, Int.reduceToNat, e19, hw1]
     refine vnext hJ hM S3 (fun _ _ h => h) ⟨hst.1, k + 1, hlt, ?_, ?_, ?_, ?_, ?_⟩ ?_
     ·simp -implicitDefEqProofs only [go_sem, ↓reduceIte, Nat.reduceEqDiff, e1]
     ·simp -implicitDefEqProofs only [go_sem, ↓reduceIte, Nat.reduceEqDiff, e3]
     ·simp -implicitDefEqProofs only [go_sem, ↓reduceIte, Nat.reduceEqDiff, e17]
     ·simp -implicitDefEqProofs only [go_sem, ↓reduceIte, Nat.reduceEqDiff, e18]
     ·simp -implicitDefEqProofs only [go_sem, ↓reduceIte, Nat.reduceEqDiff]
     ·simp -implicitDefEqProofs only [go_sem, ↓reduceIte, Nat.reduceEqDiff, e19o, Int.toNat_natCast]
      omega
  ·have hnl : ¬ (k : Int) < (T.length : Int) := by omega
   simp -implicitDefEqProofs only [go_sem, ↓reduceIte, Nat.reduceEqDiff, Nat.reduceLT, Nat.reduceLeDiff, Nat.reduceAdd, Nat.reduceMul, Nat.reduceSub, reduceCtorEq, Nat.reduceMod, Nat.reduceBEq, Int.reduceBEq, Int.reduceBNe, Int.reduceToNat, e18, e19, hnl]
   refine hQ _ _ _ ?_
   simp -implicitDefEqProofs only [go_sem, ↓reduceIte, Nat.reduceEqDiff, Nat.reduceLT, Nat.reduceLeDiff, Nat.reduceAdd, Nat.reduceMul, Nat.reduceSub, reduceCtorEq, Nat.reduceMod, Nat.reduceBEq, Int.reduceBEq, Int.reduceBNe, Int.reduceToNat]
   exact ⟨S1, fun _ _ h => h, hK S1 hsub⟩
end Go.Proofs.YtdioedabjaaboaaGreat.V
