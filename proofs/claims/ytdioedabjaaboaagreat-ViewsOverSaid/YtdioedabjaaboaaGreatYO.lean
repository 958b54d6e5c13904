/- Views: the document's views. -/
import Derived.Test.YtdioedabjaaboaaGreatYM
import Derived.Test.YtdioedabjaaboaaGreatXP1
set_option linter.unusedVariables false
set_option linter.unusedSimpArgs false
namespace Go.Proofs.YtdioedabjaaboaaGreat.V
open Go Go.VL

def encWs (l : List Wv) : List (List PV) := l.map encW
@[go_sem] theorem len_encWs (l : List Wv) : (encWs l).length = l.length := by simp [encWs]
theorem getD_encWs {l : List Wv} {k : Nat} {w : Wv} (h : l[k]? = some w) : (encWs l).getD k [] = [.str w.name, .int .i64 w.kind, .str w.field, .str w.of_] := by
 simp [encWs, encW, List.getD_eq_getElem?_getD, h]
theorem encWs_one (l : List Wv) (w : Wv) : encWs l ++ [[.str w.name, .int .i64 w.kind, .str w.field, .str w.of_]] = encWs (l ++ [w]) := by simp [encWs, encW]
theorem encWs_app (a b : List Wv) : encWs a ++ encWs b = encWs (a ++ b) := by simp [encWs]
theorem encWs_take (l : List Wv) (k : Nat) : (encWs l).take k = encWs (l.take k) := by simp [encWs]
theorem encWs_drop (l : List Wv) (k : Nat) : (encWs l).drop k = encWs (l.drop k) := by simp [encWs]
def whereW (name : ByteArray) : List Wv → Nat → Int
 | [], _ => -1
 | w :: l, i => if same w.name name then (i : Int) else whereW name l (i + 1)
theorem whereF_W (name : ByteArray) : ∀ (T : WT) (i : Nat), whereF name T i = whereW name (T.map Prod.fst) i
 | [], _ => rfl
 | t :: T, i => by
  rw [List.map_cons]
  unfold whereF whereW
  rw [whereF_W name T (i + 1)]
theorem whereW_drop {name : ByteArray} {l : List Wv} {k : Nat} {w : Wv} (h : l[k]? = some w) : whereW name (l.drop k) k = if same w.name name then (k : Int) else whereW name (l.drop (k + 1)) (k + 1) := by
 rw [drop_cons h]; rfl
theorem whereW_range {name : ByteArray} : ∀ {l : List Wv} {i : Nat}, whereW name l i = -1 ∨ ((i : Int) ≤ whereW name l i ∧ whereW name l i < i + l.length)
 | [], _ => .inl rfl
 | w :: l, i => by
  unfold whereW
  split
  ·right; rw [List.length_cons]; omega
  ·rcases whereW_range (name := name) (l := l) (i := i + 1) with h | h
   ·exact .inl h
   ·right; rw [List.length_cons]; omega
theorem whereW_at : ∀ {l : List Wv} {i k : Nat} {w : Wv}, (l.map Wv.name).Nodup → l[k]? = some w → whereW w.name l i = ((i + k : Nat) : Int)
 | [], _, _, _, _, h => by simp at h
 | v :: l, i, 0, w, hn, h => by
  have : v = w := by simpa using h
  subst this
  unfold whereW
  rw [if_pos (same_refl _)]
  rfl
 | v :: l, i, k + 1, w, hn, h => by
  rw [List.map_cons, List.nodup_cons] at hn
  have hw : l[k]? = some w := by simpa using h
  unfold whereW
  rw [if_neg]
  ·rw [whereW_at hn.2 hw]
   congr 1
   omega
  ·intro hs
   refine hn.1 ?_
   rw [same_iff.1 hs]
   exact List.mem_map.2 ⟨w, List.mem_of_getElem? hw, rfl⟩
/-- Why a view can't be added. -/
def addW (w : Wv) (ws : List Wv) (P : List Pr) : Int :=
 if vcheck w = 0 then (if whereW w.name ws 0 < 0 then (if (ws.length : Int) < 4 then (if fitsQ w P then 0 else 72) else 7) else 70) else vcheck w
theorem addE_W (w : Wv) (T : WT) (P : List Pr) : addE w T P = addW w (T.map Prod.fst) P := by
 unfold addE addW
 rw [whereF_W, List.length_map]
def takeW (ws : List Wv) (P : List Pr) : Int := if ws.all (fun w => fitsQ w P) then 0 else 72
theorem takeE_W (T : WT) (P : List Pr) : takeE T P = takeW (T.map Prod.fst) P := by
 unfold takeE takeW
 rw [List.all_map]
 rfl
/-- The document's views. -/
def Rv (S : Store) (xid : Nat) (ws : List Wv) : Prop := S xid = some [.sl .no 4 (encWs ws)]
theorem RFind_spec {S : Store} {xid : Nat} {ws : List Wv} (h : Rv S xid ws) (hl : ws.length ≤ 1000000) (name : ByteArray) : PRet Tryz.prog 69 [.ref xid 0, .str name] S (.int .i64 (whereW name ws 0)) := by
 intro K hK
 refine pcalls_of (C := C) (fun _ => false) (fun _ => false) Tryz.func69 rfl rfl (by simp [Tryz.f69]) ?_
 simp -implicitDefEqProofs only [go_sem, ↓reduceIte, Nat.reduceEqDiff, Nat.reduceLT, Nat.reduceLeDiff, Nat.reduceAdd, Nat.reduceMul, Nat.reduceSub, reduceCtorEq, Nat.reduceMod, Nat.reduceBEq, Int.reduceBEq, Int.reduceBNe, Int.reduceToNat, Tryz.f69, (show S xid = some [.sl .no 4 (encWs ws)] from h)]
 refine vloop (fun e S' => S' = S ∧ ∃ k : Nat, k ≤ ws.length ∧ whereW name ws 0 = whereW name (ws.drop k) k ∧ e 1 = .str name ∧ e 10 = .sl .no 4 (encWs ws) ∧ e 11 = .int .i64 ws.length ∧ e 12 = .int .i64 k) (fun e _ => ws.length - iv (e 12)) ?_ ?_
 ·exact ⟨rfl, 0, Nat.zero_le _, rfl, by simp -implicitDefEqProofs only [go_sem, ↓reduceIte, Nat.reduceEqDiff], by simp -implicitDefEqProofs only [go_sem, ↓reduceIte, Nat.reduceEqDiff], by simp -implicitDefEqProofs only [go_sem, ↓reduceIte, Nat.reduceEqDiff], by simp -implicitDefEqProofs only [go_sem, ↓reduceIte, Nat.reduceEqDiff]⟩
 ·rintro J M Q' hJ hM hQ e S' ⟨rfl, k, hk, hr, e1, e10, e11, e12⟩
  by_cases hlt : k < ws.length
  ·obtain ⟨w, hw⟩ : ∃ w, ws[k]? = some w := ⟨ws[k], List.getElem?_eq_getElem hlt⟩
   have hlti : (k : Int) < (ws.length : Int) := by omega
   have h1 : (0 : Int) ≤ (k : Int) ∧ (k : Int) < (ws.length : Int) := by omega
   have hw1 : IntKind.i64.wrap ((k : Int) + 1) = ((k + 1 : Nat) : Int) := wrap64 (by omega) (by omega)
   rw [whereW_drop hw] at hr
   cases hs : same w.name name
   ·rw [hs] at hr
    simp -implicitDefEqProofs only [go_sem, ↓reduceIte, Nat.reduceEqDiff, Nat.reduceLT, Nat.reduceLeDiff, Nat.reduceAdd, Nat.reduceMul, Nat.reduceSub, reduceCtorEq, Nat.reduceMod, Nat.reduceBEq, Int.reduceBEq, Int.reduceBNe, Int.reduceToNat, e1, e10, e11, e12, hlti, h1, Int.toNat_natCast, getD_encWs hw, hs, Bool.false_eq_true, hw1]
    refine vnext hJ hM S' (fun _ _ h => h) ⟨rfl, k + 1, hlt, hr, ?_, ?_, ?_, ?_⟩ ?_
    ·simp -implicitDefEqProofs only [go_sem, ↓reduceIte, Nat.reduceEqDiff, e1]
    ·simp -implicitDefEqProofs only [go_sem, ↓reduceIte, Nat.reduceEqDiff, e10]
    ·simp -implicitDefEqProofs only [go_sem, ↓reduceIte, Nat.reduceEqDiff, e11]
    ·simp -implicitDefEqProofs only [go_sem, ↓reduceIte, Nat.reduceEqDiff]
    ·simp -implicitDefEqProofs only [go_sem, ↓reduceIte, Nat.reduceEqDiff, e12, Int.toNat_natCast]
     omega
   ·rw [hs] at hr
    simp only [if_true] at hr
    rw [hr] at hK
    simp -implicitDefEqProofs only [go_sem, ↓reduceIte, Nat.reduceEqDiff, Nat.reduceLT, Nat.reduceLeDiff, Nat.reduceAdd, Nat.reduceMul, Nat.reduceSub, reduceCtorEq, Nat.reduceMod, Nat.reduceBEq, Int.reduceBEq, Int.reduceBNe, Int.reduceToNat, e1, e10, e11, e12, hlti, h1, Int.toNat_natCast, getD_encWs hw, hs]
    refine hQ _ _ _ ?_
    simp -implicitDefEqProofs only [go_sem, ↓reduceIte, Nat.reduceEqDiff, Nat.reduceLT, Nat.reduceLeDiff, Nat.reduceAdd, Nat.reduceMul, Nat.reduceSub, reduceCtorEq, Nat.reduceMod, Nat.reduceBEq, Int.reduceBEq, Int.reduceBNe, Int.reduceToNat]
    exact ⟨S', fun _ _ h => h, hK⟩
  ·have hnl : ¬ (k : Int) < (ws.length : Int) := by omega
   rw [List.drop_of_length_le (by omega)] at hr
   have hm : whereW name ws 0 = -1 := hr
   rw [hm] at hK
   simp -implicitDefEqProofs only [go_sem, ↓reduceIte, Nat.reduceEqDiff, Nat.reduceLT, Nat.reduceLeDiff, Nat.reduceAdd, Nat.reduceMul, Nat.reduceSub, reduceCtorEq, Nat.reduceMod, Nat.reduceBEq, Int.reduceBEq, Int.reduceBNe, Int.reduceToNat, e11, e12, hnl]
   refine hQ _ _ _ ?_
   simp -implicitDefEqProofs only [go_sem, ↓reduceIte, Nat.reduceEqDiff, Nat.reduceLT, Nat.reduceLeDiff, Nat.reduceAdd, Nat.reduceMul, Nat.reduceSub, reduceCtorEq, Nat.reduceMod, Nat.reduceBEq, Int.reduceBEq, Int.reduceBNe, Int.reduceToNat]
   exact ⟨S', fun _ _ h => h, hK⟩
theorem ofV_err {w : Wv} {P : List Pr} (h : vcheck w = 0) : (ofV w P).2 = if fitsQ w P then 0 else 72 := by
 unfold ofV
 rw [if_pos h]
 cases fitsQ w P <;> rfl
set_option maxHeartbeats 2000000 in
theorem RAdd_calls {S : Store} {xid : Nat} {ws : List Wv} (h : Rv S xid ws) (hl : ws.length ≤ 4) (w : Wv) (hw : FitW w) (P : List Pr) (hP : P.length ≤ 1000000) (hf : FitK P) (hn : (P.map Prod.fst).Nodup) (K : PV → Store → Prop)
  (hK : K (.int .i64 (addW w ws P)) (if addW w ws P = 0 then S.set xid (some [.sl .no 4 (encWs (ws ++ [w]))]) else S)) :
  PCalls Tryz.prog 32 [.ref xid 0, .agg (encW w), .sl .no 3 (encOs (P.map kOf))] S K := by
 have h' : S xid = some [.sl .no 4 (encWs ws)] := h
 refine pcalls_of (C := C) (fun _ => false) (fun _ => false) Tryz.func32 rfl rfl (by simp [Tryz.f32]) ?_
 unfold encW
 simp -implicitDefEqProofs only [go_sem, ↓reduceIte, Nat.reduceEqDiff, Nat.reduceLT, Nat.reduceLeDiff, Nat.reduceAdd, Nat.reduceMul, Nat.reduceSub, reduceCtorEq, Nat.reduceMod, Nat.reduceBEq, Int.reduceBEq, Int.reduceBNe, Int.reduceToNat, Tryz.f32]
 refine RCheck_spec w hw _ _ ?_
 unfold addW at hK
 by_cases h0 : vcheck w = 0
 ·have d0 : (vcheck w != 0) = false := by rw [h0]; rfl
  rw [if_pos h0] at hK
  simp -implicitDefEqProofs only [go_sem, ↓reduceIte, Nat.reduceEqDiff, Nat.reduceLT, Nat.reduceLeDiff, Nat.reduceAdd, Nat.reduceMul, Nat.reduceSub, reduceCtorEq, Nat.reduceMod, Nat.reduceBEq, Int.reduceBEq, Int.reduceBNe, Int.reduceToNat, d0, Bool.false_eq_true]
  refine RFind_spec h (by omega) w.name _ ?_
  by_cases h1 : whereW w.name ws 0 < 0
  ·have g1 : ¬ (0 : Int) ≤ whereW w.name ws 0 := by omega
   rw [if_pos h1] at hK
   by_cases h2 : (ws.length : Int) < 4
   ·have g2 : ((ws.length : Int) == 4) = false := beq_eq_false_iff_ne.2 (by omega)
    rw [if_pos h2] at hK
    simp -implicitDefEqProofs only [go_sem, ↓reduceIte, Nat.reduceEqDiff, Nat.reduceLT, Nat.reduceLeDiff, Nat.reduceAdd, Nat.reduceMul, Nat.reduceSub, reduceCtorEq, Nat.reduceMod, Nat.reduceBEq, Int.reduceBEq, Int.reduceBNe, Int.reduceToNat, ge_iff_le, g1, h', g2, Bool.false_eq_true]
    refine ROf_pv w hw P hP hf hn _ _ ?_
    unfold encOf
    rw [ofV_err h0]
    cases h3 : fitsQ w P
    ·rw [h3] at hK
     have q72 : ((72 : Int) != 0) = true := rfl
     simp -implicitDefEqProofs only [go_sem, ↓reduceIte, Nat.reduceEqDiff, Nat.reduceLT, Nat.reduceLeDiff, Nat.reduceAdd, Nat.reduceMul, Nat.reduceSub, reduceCtorEq, Nat.reduceMod, Nat.reduceBEq, Int.reduceBEq, Int.reduceBNe, Int.reduceToNat, Bool.false_eq_true, q72]
     exact ⟨S, fun _ _ h => h, hK⟩
    ·rw [h3] at hK
     have hap : (ws.length) * 56 ≤ 140737488355328 ∧ ws.length ≤ 140737488355328 := by omega
     have hap2 : (ws.length + 1) * 56 ≤ 140737488355328 ∧ ws.length ≤ 140737488355327 := by omega
     simp -implicitDefEqProofs only [go_sem, ↓reduceIte, Nat.reduceEqDiff, Nat.reduceLT, Nat.reduceLeDiff, Nat.reduceAdd, Nat.reduceMul, Nat.reduceSub, reduceCtorEq, Nat.reduceMod, Nat.reduceBEq, Int.reduceBEq, Int.reduceBNe, Int.reduceToNat, n0, Bool.false_eq_true]
     refine vwp_tail 12 (by decide +kernel) (by decide +kernel) ?_
     dsimp only [List.take, List.drop]
     simp -implicitDefEqProofs only [go_sem, ↓reduceIte, Nat.reduceEqDiff, Nat.reduceLT, Nat.reduceLeDiff, Nat.reduceAdd, Nat.reduceMul, Nat.reduceSub, reduceCtorEq, Nat.reduceMod, Nat.reduceBEq, Int.reduceBEq, Int.reduceBNe, Int.reduceToNat, h', List.length_nil, Nat.zero_add, List.nil_append, hap, hap2, encWs_one, psplice]
     exact ⟨_, fun _ _ h => h, hK⟩
   ·have g2 : ((ws.length : Int) == 4) = true := beq_iff_eq.2 (by omega)
    rw [if_neg h2] at hK
    simp -implicitDefEqProofs only [go_sem, ↓reduceIte, Nat.reduceEqDiff, Nat.reduceLT, Nat.reduceLeDiff, Nat.reduceAdd, Nat.reduceMul, Nat.reduceSub, reduceCtorEq, Nat.reduceMod, Nat.reduceBEq, Int.reduceBEq, Int.reduceBNe, Int.reduceToNat, ge_iff_le, g1, h', g2, Bool.false_eq_true]
    exact ⟨S, fun _ _ h => h, hK⟩
  ·have g1 : (0 : Int) ≤ whereW w.name ws 0 := by omega
   rw [if_neg h1] at hK
   simp -implicitDefEqProofs only [go_sem, ↓reduceIte, Nat.reduceEqDiff, Nat.reduceLT, Nat.reduceLeDiff, Nat.reduceAdd, Nat.reduceMul, Nat.reduceSub, reduceCtorEq, Nat.reduceMod, Nat.reduceBEq, Int.reduceBEq, Int.reduceBNe, Int.reduceToNat, ge_iff_le, g1]
   exact ⟨S, fun _ _ h => h, hK⟩
 ·have d0 : (vcheck w != 0) = true := by simp [h0]
  rw [if_neg h0, if_neg h0] at hK
  simp -implicitDefEqProofs only [go_sem, ↓reduceIte, Nat.reduceEqDiff, Nat.reduceLT, Nat.reduceLeDiff, Nat.reduceAdd, Nat.reduceMul, Nat.reduceSub, reduceCtorEq, Nat.reduceMod, Nat.reduceBEq, Int.reduceBEq, Int.reduceBNe, Int.reduceToNat, d0]
  exact ⟨S, fun _ _ h => h, hK⟩
/-- Dropped: what is answered, and what is left. -/
def dropW (n : ByteArray) (ws : List Wv) : Int := if whereW n ws 0 < 0 then 71 else 0
def lessW (n : ByteArray) (ws : List Wv) : List Wv := if whereW n ws 0 < 0 then ws else ws.eraseIdx (whereW n ws 0).toNat
set_option maxHeartbeats 2000000 in
theorem RDrop_calls {S : Store} {xid : Nat} {ws : List Wv} (h : Rv S xid ws) (hl : ws.length ≤ 4) (n : ByteArray) (K : PV → Store → Prop)
  (hK : K (.int .i64 (dropW n ws)) (S.set xid (some [.sl .no 4 (encWs (lessW n ws))]))) : PCalls Tryz.prog 33 [.ref xid 0, .str n] S K := by
 have h' : S xid = some [.sl .no 4 (encWs ws)] := h
 refine pcalls_of (C := C) (fun _ => false) (fun _ => false) Tryz.func33 rfl rfl (by simp [Tryz.f33]) ?_
 simp -implicitDefEqProofs only [go_sem, ↓reduceIte, Nat.reduceEqDiff, Nat.reduceLT, Nat.reduceLeDiff, Nat.reduceAdd, Nat.reduceMul, Nat.reduceSub, reduceCtorEq, Nat.reduceMod, Nat.reduceBEq, Int.reduceBEq, Int.reduceBNe, Int.reduceToNat, Tryz.f33]
 refine RFind_spec h (by omega) n _ ?_
 unfold dropW lessW at hK
 by_cases h1 : whereW n ws 0 < 0
 ·rw [if_pos h1, if_pos h1, set_eta h'] at hK
  simp -implicitDefEqProofs only [go_sem, ↓reduceIte, Nat.reduceEqDiff, Nat.reduceLT, Nat.reduceLeDiff, Nat.reduceAdd, Nat.reduceMul, Nat.reduceSub, reduceCtorEq, Nat.reduceMod, Nat.reduceBEq, Int.reduceBEq, Int.reduceBNe, Int.reduceToNat, h1]
  exact ⟨S, fun _ _ h => h, hK⟩
 ·rw [if_neg h1, if_neg h1] at hK
  have hr := (whereW_range (name := n) (l := ws) (i := 0)).resolve_left (by omega)
  obtain ⟨j, hj⟩ : ∃ j : Nat, whereW n ws 0 = (j : Int) := ⟨(whereW n ws 0).toNat, by omega⟩
  rw [hj] at hK h1 hr
  rw [Int.toNat_natCast, List.eraseIdx_eq_take_drop_succ] at hK
  have hjl : j < ws.length := by omega
  have hw1 : IntKind.i64.wrap ((j : Int) + 1) = ((j + 1 : Nat) : Int) := wrap64 (by omega) (by omega)
  have s1 : (0 : Int) ≤ 0 ∧ (0 : Int) ≤ (j : Int) ∧ (j : Int) ≤ (ws.length : Int) := by omega
  have s2 : (0 : Int) ≤ ((j + 1 : Nat) : Int) ∧ ((j + 1 : Nat) : Int) ≤ (ws.length : Int) ∧ (ws.length : Int) ≤ (ws.length : Int) := by omega
  rw [hj]
  simp -implicitDefEqProofs only [go_sem, ↓reduceIte, Nat.reduceEqDiff, Nat.reduceLT, Nat.reduceLeDiff, Nat.reduceAdd, Nat.reduceMul, Nat.reduceSub, reduceCtorEq, Nat.reduceMod, Nat.reduceBEq, Int.reduceBEq, Int.reduceBNe, Int.reduceToNat, h1, Bool.false_eq_true]
  refine vwp_tail 19 (by decide +kernel) (by decide +kernel) ?_
  dsimp only [List.take, List.drop]
  simp -implicitDefEqProofs only [go_sem, ↓reduceIte, Nat.reduceEqDiff, Nat.reduceLT, Nat.reduceLeDiff, Nat.reduceAdd, Nat.reduceMul, Nat.reduceSub, reduceCtorEq, Nat.reduceMod, Nat.reduceBEq, Int.reduceBEq, Int.reduceBNe, Int.reduceToNat, h', s1, s2, hw1, Int.toNat_natCast, Int.toNat_zero, encWs_take, encWs_drop, List.length_nil, Nat.zero_add, List.nil_append]
  have htd : List.take (ws.length - (j + 1)) (List.drop (j + 1) ws) = ws.drop (j + 1) := List.take_of_length_le (by rw [List.length_drop]; exact Nat.le_refl _)
  rw [htd, encWs_app]
  exact ⟨by rw [List.length_take]; omega, by rw [List.length_take, List.length_drop]; omega, _, fun _ _ h => h, hK⟩
theorem EqualW_refl (l : List Wv) (hl : l.length ≤ 1000000) (S : Store) : PRet Tryz.prog 35 [.sl .no 4 (encWs l), .sl .no 4 (encWs l)] S (.bool true) := by
 intro K hK
 refine pcalls_of (C := C) (fun _ => false) (fun _ => false) Tryz.func35 rfl rfl (by simp [Tryz.f35]) ?_
 simp -implicitDefEqProofs only [go_sem, ↓reduceIte, Nat.reduceEqDiff, Nat.reduceLT, Nat.reduceLeDiff, Nat.reduceAdd, Nat.reduceMul, Nat.reduceSub, reduceCtorEq, Nat.reduceMod, Nat.reduceBEq, Int.reduceBEq, Int.reduceBNe, Int.reduceToNat, Tryz.f35, neI]
 refine vloop (fun e S' => S' = S ∧ ∃ k : Nat, k ≤ l.length ∧ e 0 = .sl .no 4 (encWs l) ∧ e 1 = .sl .no 4 (encWs l) ∧ e 12 = .int .i64 l.length ∧ e 13 = .int .i64 k) (fun e _ => l.length - iv (e 13)) ?_ ?_
 ·exact ⟨rfl, 0, Nat.zero_le _, by simp -implicitDefEqProofs only [go_sem, ↓reduceIte, Nat.reduceEqDiff], by simp -implicitDefEqProofs only [go_sem, ↓reduceIte, Nat.reduceEqDiff], by simp -implicitDefEqProofs only [go_sem, ↓reduceIte, Nat.reduceEqDiff], by simp -implicitDefEqProofs only [go_sem, ↓reduceIte, Nat.reduceEqDiff]⟩
 ·rintro J M Q' hJ hM hQ e S' ⟨rfl, k, hk, e0, e1, e12, e13⟩
  by_cases hlt : k < l.length
  ·obtain ⟨w, hw⟩ : ∃ w, l[k]? = some w := ⟨l[k], List.getElem?_eq_getElem hlt⟩
   have hlti : (k : Int) < (l.length : Int) := by omega
   have h1 : (0 : Int) ≤ (k : Int) ∧ (k : Int) < (l.length : Int) := by omega
   have hw1 : IntKind.i64.wrap ((k : Int) + 1) = ((k + 1 : Nat) : Int) := wrap64 (by omega) (by omega)
   simp -implicitDefEqProofs only [go_sem, ↓reduceIte, Nat.reduceEqDiff, Nat.reduceLT, Nat.reduceLeDiff, Nat.reduceAdd, Nat.reduceMul, Nat.reduceSub, reduceCtorEq, Nat.reduceMod, Nat.reduceBEq, Int.reduceBEq, Int.reduceBNe, Int.reduceToNat, e12, e13, hlti]
   refine vwp_draw (by decide +kernel) ?_
   have hee : ∀ x : Int, (x == x) = true := fun x => by simp
   simp -implicitDefEqProofs only [go_sem, ↓reduceIte, Nat.reduceEqDiff, Nat.reduceLT, Nat.reduceLeDiff, Nat.reduceAdd, Nat.reduceMul, Nat.reduceSub, reduceCtorEq, Nat.reduceMod, Nat.reduceBEq, Int.reduceBEq, Int.reduceBNe, Int.reduceToNat, e0, e1, h1, Int.toNat_natCast, getD_encWs hw, same_refl, hee, Bool.not_true, Bool.and_true, Bool.and_self, Bool.false_eq_true, e13, hw1]
   refine vnext hJ hM S' (fun _ _ h => h) ⟨rfl, k + 1, hlt, ?_, ?_, ?_, ?_⟩ ?_
   ·simp -implicitDefEqProofs only [go_sem, ↓reduceIte, Nat.reduceEqDiff, e0]
   ·simp -implicitDefEqProofs only [go_sem, ↓reduceIte, Nat.reduceEqDiff, e1]
   ·simp -implicitDefEqProofs only [go_sem, ↓reduceIte, Nat.reduceEqDiff, e12]
   ·simp -implicitDefEqProofs only [go_sem, ↓reduceIte, Nat.reduceEqDiff]
   ·simp -implicitDefEqProofs only [go_sem, ↓reduceIte, Nat.reduceEqDiff, e13, Int.toNat_natCast]
    omega
  ·have hnl : ¬ (k : Int) < (l.length : Int) := by omega
   simp -implicitDefEqProofs only [go_sem, ↓reduceIte, Nat.reduceEqDiff, Nat.reduceLT, Nat.reduceLeDiff, Nat.reduceAdd, Nat.reduceMul, Nat.reduceSub, reduceCtorEq, Nat.reduceMod, Nat.reduceBEq, Int.reduceBEq, Int.reduceBNe, Int.reduceToNat, e12, e13, hnl]
   refine hQ _ _ _ ?_
   simp -implicitDefEqProofs only [go_sem, ↓reduceIte, Nat.reduceEqDiff, Nat.reduceLT, Nat.reduceLeDiff, Nat.reduceAdd, Nat.reduceMul, Nat.reduceSub, reduceCtorEq, Nat.reduceMod, Nat.reduceBEq, Int.reduceBEq, Int.reduceBNe, Int.reduceToNat]
   exact ⟨S', fun _ _ h => h, hK⟩
/-- May all be kept so? -/
theorem RFits_spec {S : Store} {xid : Nat} {ws : List Wv} (h : Rv S xid ws) (hl : ws.length ≤ 1000000) (hg : ∀ w ∈ ws, vcheck w = 0 ∧ FitW w) (P : List Pr) (hP : P.length ≤ 1000000) (hf : FitK P) (hn : (P.map Prod.fst).Nodup) :
  PRet Tryz.prog 31 [.ref xid 0, .sl .no 3 (encOs (P.map kOf))] S (.int .i64 (takeW ws P)) := by
 intro K hK
 refine pcalls_of (C := C) (fun _ => false) (fun _ => false) Tryz.func31 rfl rfl (by simp [Tryz.f31]) ?_
 simp -implicitDefEqProofs only [go_sem, ↓reduceIte, Nat.reduceEqDiff, Nat.reduceLT, Nat.reduceLeDiff, Nat.reduceAdd, Nat.reduceMul, Nat.reduceSub, reduceCtorEq, Nat.reduceMod, Nat.reduceBEq, Int.reduceBEq, Int.reduceBNe, Int.reduceToNat, Tryz.f31, (show S xid = some [.sl .no 4 (encWs ws)] from h)]
 refine vloop (fun e S' => S' = S ∧ ∃ k : Nat, k ≤ ws.length ∧ ws.all (fun w => fitsQ w P) = (ws.drop k).all (fun w => fitsQ w P) ∧ e 1 = .sl .no 3 (encOs (P.map kOf)) ∧ e 12 = .sl .no 4 (encWs ws) ∧ e 13 = .int .i64 ws.length ∧ e 14 = .int .i64 k) (fun e _ => ws.length - iv (e 14)) ?_ ?_
 ·exact ⟨rfl, 0, Nat.zero_le _, rfl, by simp -implicitDefEqProofs only [go_sem, ↓reduceIte, Nat.reduceEqDiff], by simp -implicitDefEqProofs only [go_sem, ↓reduceIte, Nat.reduceEqDiff], by simp -implicitDefEqProofs only [go_sem, ↓reduceIte, Nat.reduceEqDiff], by simp -implicitDefEqProofs only [go_sem, ↓reduceIte, Nat.reduceEqDiff]⟩
 ·rintro J M Q' hJ hM hQ e S' ⟨rfl, k, hk, hr, e1, e12, e13, e14⟩
  by_cases hlt : k < ws.length
  ·obtain ⟨w, hw⟩ : ∃ w, ws[k]? = some w := ⟨ws[k], List.getElem?_eq_getElem hlt⟩
   obtain ⟨hv, hfw⟩ := hg w (List.mem_of_getElem? hw)
   have hlti : (k : Int) < (ws.length : Int) := by omega
   have h1 : (0 : Int) ≤ (k : Int) ∧ (k : Int) < (ws.length : Int) := by omega
   have hw1 : IntKind.i64.wrap ((k : Int) + 1) = ((k + 1 : Nat) : Int) := wrap64 (by omega) (by omega)
   rw [drop_cons hw, List.all_cons] at hr
   simp -implicitDefEqProofs only [go_sem, ↓reduceIte, Nat.reduceEqDiff, Nat.reduceLT, Nat.reduceLeDiff, Nat.reduceAdd, Nat.reduceMul, Nat.reduceSub, reduceCtorEq, Nat.reduceMod, Nat.reduceBEq, Int.reduceBEq, Int.reduceBNe, Int.reduceToNat, e1, e12, e13, e14, hlti, h1, Int.toNat_natCast, getD_encWs hw]
   refine ROf_pv w hfw P hP hf hn _ _ ?_
   unfold encOf
   rw [ofV_err hv]
   cases hfq : fitsQ w P
   ·rw [hfq, Bool.false_and] at hr
    unfold takeW at hK
    rw [hr] at hK
    have q72 : ((72 : Int) != 0) = true := rfl
    simp -implicitDefEqProofs only [go_sem, ↓reduceIte, Nat.reduceEqDiff, Nat.reduceLT, Nat.reduceLeDiff, Nat.reduceAdd, Nat.reduceMul, Nat.reduceSub, reduceCtorEq, Nat.reduceMod, Nat.reduceBEq, Int.reduceBEq, Int.reduceBNe, Int.reduceToNat, Bool.false_eq_true, q72]
    refine hQ _ _ _ ?_
    simp -implicitDefEqProofs only [go_sem, ↓reduceIte, Nat.reduceEqDiff, Nat.reduceLT, Nat.reduceLeDiff, Nat.reduceAdd, Nat.reduceMul, Nat.reduceSub, reduceCtorEq, Nat.reduceMod, Nat.reduceBEq, Int.reduceBEq, Int.reduceBNe, Int.reduceToNat]
    exact ⟨S', fun _ _ h => h, hK⟩
   ·rw [hfq, Bool.true_and] at hr
    simp -implicitDefEqProofs only [go_sem, ↓reduceIte, Nat.reduceEqDiff, Nat.reduceLT, Nat.reduceLeDiff, Nat.reduceAdd, Nat.reduceMul, Nat.reduceSub, reduceCtorEq, Nat.reduceMod, Nat.reduceBEq, Int.reduceBEq, Int.reduceBNe, Int.reduceToNat, n0, Bool.false_eq_true, e14, hw1]
    refine vnext hJ hM S' (fun _ _ h => h) ⟨rfl, k + 1, hlt, hr, ?_, ?_, ?_, ?_⟩ ?_
    ·simp -implicitDefEqProofs only [go_sem, ↓reduceIte, Nat.reduceEqDiff, e1]
    ·simp -implicitDefEqProofs only [go_sem, ↓reduceIte, Nat.reduceEqDiff, e12]
    ·simp -implicitDefEqProofs only [go_sem, ↓reduceIte, Nat.reduceEqDiff, e13]
    ·simp -implicitDefEqProofs only [go_sem, ↓reduceIte, Nat.reduceEqDiff]
    ·simp -implicitDefEqProofs only [go_sem, ↓reduceIte, Nat.reduceEqDiff, e14, Int.toNat_natCast]
     omega
  ·have hnl : ¬ (k : Int) < (ws.length : Int) := by omega
   rw [List.drop_of_length_le (by omega), List.all_nil] at hr
   unfold takeW at hK
   rw [hr] at hK
   simp -implicitDefEqProofs only [go_sem, ↓reduceIte, Nat.reduceEqDiff, Nat.reduceLT, Nat.reduceLeDiff, Nat.reduceAdd, Nat.reduceMul, Nat.reduceSub, reduceCtorEq, Nat.reduceMod, Nat.reduceBEq, Int.reduceBEq, Int.reduceBNe, Int.reduceToNat, e13, e14, hnl]
   refine hQ _ _ _ ?_
   simp -implicitDefEqProofs only [go_sem, ↓reduceIte, Nat.reduceEqDiff, Nat.reduceLT, Nat.reduceLeDiff, Nat.reduceAdd, Nat.reduceMul, Nat.reduceSub, reduceCtorEq, Nat.reduceMod, Nat.reduceBEq, Int.reduceBEq, Int.reduceBNe, Int.reduceToNat]
   exact ⟨S', fun _ _ h => h, hK⟩
set_option maxHeartbeats 2000000 in
theorem RSet_calls {S : Store} {xid : Nat} {ws : List Wv} (h : Rv S xid ws) (w : Wv) (hw : FitW w) (P : List Pr) (hP : P.length ≤ 1000000) (hf : FitK P) (hn : (P.map Prod.fst).Nodup) (K : PV → Store → Prop)
  (hK : ∀ S', Sub' (S.set xid none) S' → Rv S' xid (if addW w [] P = 0 then [w] else ws) → K (.int .i64 (addW w [] P)) S') :
  PCalls Tryz.prog 34 [.ref xid 0, .sl .no 4 (encWs [w]), .sl .no 3 (encOs (P.map kOf))] S K := by
 have h' : S xid = some [.sl .no 4 (encWs ws)] := h
 refine pcalls_of (C := C) (fun _ => false) (fun d => d == 12) Tryz.func34 rfl rfl (by simp [Tryz.f34]) ?_
 simp -implicitDefEqProofs only [go_sem, ↓reduceIte, Nat.reduceEqDiff, Nat.reduceLT, Nat.reduceLeDiff, Nat.reduceAdd, Nat.reduceMul, Nat.reduceSub, reduceCtorEq, Nat.reduceMod, Nat.reduceBEq, Int.reduceBEq, Int.reduceBNe, Int.reduceToNat, Tryz.f34]
 intro yid hy
 have hxy : xid ≠ yid := fun he => by rw [← he, h'] at hy; cases hy
 have i1 : ((1 : Nat) : Int) = 1 := rfl
 have hw1 : IntKind.i64.wrap ((0 : Int) + 1) = 1 := rfl
 refine vloop (fun e S' => (e 0 = .ref xid 0 ∧ e 1 = .sl .no 4 (encWs [w]) ∧ e 2 = .sl .no 3 (encOs (P.map kOf)) ∧ e 7 = .ref yid 0 ∧ e 13 = .sl .no 4 (encWs [w]) ∧ e 14 = .int .i64 1) ∧ ((e 15 = .int .i64 0 ∧ S' = S.set yid (some [.sl .no 4 []])) ∨ (e 15 = .int .i64 1 ∧ addW w [] P = 0 ∧ S' = S.set yid (some [.sl .no 4 (encWs [w])])))) (fun e _ => 1 - iv (e 15)) ?_ ?_
 ·exact ⟨⟨by simp -implicitDefEqProofs only [go_sem, ↓reduceIte, Nat.reduceEqDiff], by simp -implicitDefEqProofs only [go_sem, ↓reduceIte, Nat.reduceEqDiff], by simp -implicitDefEqProofs only [go_sem, ↓reduceIte, Nat.reduceEqDiff], by simp -implicitDefEqProofs only [go_sem, ↓reduceIte, Nat.reduceEqDiff], by simp -implicitDefEqProofs only [go_sem, ↓reduceIte, Nat.reduceEqDiff], by simp -implicitDefEqProofs only [go_sem, ↓reduceIte, Nat.reduceEqDiff]; rfl⟩, .inl ⟨by simp -implicitDefEqProofs only [go_sem, ↓reduceIte, Nat.reduceEqDiff], rfl⟩⟩
 ·rintro J M Q' hJ hM hQ e S' ⟨⟨e0, e1, e2, e7, e13, e14⟩, hcase⟩
  rcases hcase with ⟨e15, rfl⟩ | ⟨e15, ha, rfl⟩
  ·have l01 : (0 : Int) < 1 := by decide
   have h1 : (0 : Int) ≤ 0 ∧ (0 : Int) < 1 := by decide
   have hg0 : (encWs [w]).getD 0 [] = [.str w.name, .int .i64 w.kind, .str w.field, .str w.of_] := rfl
   have hrv : Rv (S.set yid (some [.sl .no 4 []])) yid [] := set_at _ _ _
   simp -implicitDefEqProofs only [go_sem, ↓reduceIte, Nat.reduceEqDiff, Nat.reduceLT, Nat.reduceLeDiff, Nat.reduceAdd, Nat.reduceMul, Nat.reduceSub, reduceCtorEq, Nat.reduceMod, Nat.reduceBEq, Int.reduceBEq, Int.reduceBNe, Int.reduceToNat, e2, e7, e13, e14, e15, l01, h1, Int.toNat_zero, hg0, List.length_cons, List.length_nil, Nat.zero_add, i1]
   refine RAdd_calls hrv (by decide) w hw P hP hf hn _ ?_
   by_cases ha : addW w [] P = 0
   ·rw [if_pos ha, ha, set_set]
    simp -implicitDefEqProofs only [go_sem, ↓reduceIte, Nat.reduceEqDiff, Nat.reduceLT, Nat.reduceLeDiff, Nat.reduceAdd, Nat.reduceMul, Nat.reduceSub, reduceCtorEq, Nat.reduceMod, Nat.reduceBEq, Int.reduceBEq, Int.reduceBNe, Int.reduceToNat, n0, Bool.false_eq_true, e15, hw1]
    refine vnext hJ hM _ (fun _ _ h => h) ⟨⟨?_, ?_, ?_, ?_, ?_, ?_⟩, .inr ⟨?_, ha, rfl⟩⟩ ?_
    ·simp -implicitDefEqProofs only [go_sem, ↓reduceIte, Nat.reduceEqDiff, e0]
    ·simp -implicitDefEqProofs only [go_sem, ↓reduceIte, Nat.reduceEqDiff, e1]
    ·simp -implicitDefEqProofs only [go_sem, ↓reduceIte, Nat.reduceEqDiff, e2]
    ·simp -implicitDefEqProofs only [go_sem, ↓reduceIte, Nat.reduceEqDiff, e7]
    ·simp -implicitDefEqProofs only [go_sem, ↓reduceIte, Nat.reduceEqDiff, e13]
    ·simp -implicitDefEqProofs only [go_sem, ↓reduceIte, Nat.reduceEqDiff, e14]
    ·simp -implicitDefEqProofs only [go_sem, ↓reduceIte, Nat.reduceEqDiff]
    ·simp -implicitDefEqProofs only [go_sem, ↓reduceIte, Nat.reduceEqDiff, Nat.reduceLT, Nat.reduceLeDiff, Nat.reduceAdd, Nat.reduceMul, Nat.reduceSub, reduceCtorEq, Nat.reduceMod, Nat.reduceBEq, Int.reduceBEq, Int.reduceBNe, Int.reduceToNat, e15, Int.toNat_zero]
   ·have d0 : (addW w [] P != 0) = true := by simp [ha]
    rw [if_neg ha]
    simp -implicitDefEqProofs only [go_sem, ↓reduceIte, Nat.reduceEqDiff, Nat.reduceLT, Nat.reduceLeDiff, Nat.reduceAdd, Nat.reduceMul, Nat.reduceSub, reduceCtorEq, Nat.reduceMod, Nat.reduceBEq, Int.reduceBEq, Int.reduceBNe, Int.reduceToNat, d0]
    refine hQ _ _ _ ?_
    simp -implicitDefEqProofs only [go_sem, ↓reduceIte, Nat.reduceEqDiff, Nat.reduceLT, Nat.reduceLeDiff, Nat.reduceAdd, Nat.reduceMul, Nat.reduceSub, reduceCtorEq, Nat.reduceMod, Nat.reduceBEq, Int.reduceBEq, Int.reduceBNe, Int.reduceToNat]
    refine ⟨_, fun _ _ h => h, hK _ ?_ ?_⟩
    ·intro id c hid
     by_cases hx : id = xid
     ·subst hx; rw [set_at] at hid; cases hid
     ·rw [Go.VL.set_ne hx] at hid
      rw [Go.VL.set_ne (fun he => by rw [he, hy] at hid; cases hid)]
      exact hid
    ·rw [if_neg ha]
     unfold Rv
     rw [Go.VL.set_ne hxy]
     exact h'
  ·have l11 : ¬ (1 : Int) < 1 := by decide
   simp -implicitDefEqProofs only [go_sem, ↓reduceIte, Nat.reduceEqDiff, Nat.reduceLT, Nat.reduceLeDiff, Nat.reduceAdd, Nat.reduceMul, Nat.reduceSub, reduceCtorEq, Nat.reduceMod, Nat.reduceBEq, Int.reduceBEq, Int.reduceBNe, Int.reduceToNat, e14, e15, l11]
   refine hQ _ _ _ ?_
   have hy2 : (S.set yid (some [PV.sl Fl.no 4 (encWs [w])])) yid = some [PV.sl Fl.no 4 (encWs [w])] := set_at _ _ _
   have hx2 : (S.set yid (some [PV.sl Fl.no 4 (encWs [w])])) xid = some [PV.sl Fl.no 4 (encWs ws)] := by rw [Go.VL.set_ne hxy]; exact h'
   have hz := hK ((S.set yid (some [PV.sl Fl.no 4 (encWs [w])])).set xid (some [PV.sl Fl.no 4 (encWs [w])])) ?_ (by rw [if_pos ha]; exact set_at _ _ _)
   ·rw [ha] at hz
    simp -implicitDefEqProofs only [go_sem, ↓reduceIte, Nat.reduceEqDiff, Nat.reduceLT, Nat.reduceLeDiff, Nat.reduceAdd, Nat.reduceMul, Nat.reduceSub, reduceCtorEq, Nat.reduceMod, Nat.reduceBEq, Int.reduceBEq, Int.reduceBNe, Int.reduceToNat, e0, e7, hy2, hx2, psplice]
    exact ⟨_, fun _ _ h => h, hz⟩
   ·intro id c hid
    by_cases hx : id = xid
    ·subst hx; rw [set_at] at hid; cases hid
    ·rw [Go.VL.set_ne hx] at hid ⊢
     rw [Go.VL.set_ne (fun he => by rw [he, hy] at hid; cases hid)]
     exact hid
end Go.Proofs.YtdioedabjaaboaaGreat.V
