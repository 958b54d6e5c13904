/- Views: what the document tells of a map. -/
import Derived.Test.YtdioedabjaaboaaGreatYH
import Derived.Test.YtdioedabjaaboaaGreatXP1
set_option linter.unusedVariables false
set_option linter.unusedSimpArgs false
namespace Go.Proofs.YtdioedabjaaboaaGreat.V
open Go Go.VL

theorem getD_kOfs {L : List Pr} {k : Nat} {p : Pr} (h : L[k]? = some p) : (encOs (L.map kOf)).getD k [] = [.str p.1, .bool true, .str p.2] := by
 have : (L.map kOf)[k]? = some (kOf p) := by rw [List.getElem?_map, h]; rfl
 rw [getD_encOs this]; rfl
def nOf (w : Wv) (p : Pr) : Int := (numF ((fieldF p.2 w.of_).getD ⟨#[]⟩)).1
def txts (w : Wv) (P : List Pr) : List ByteArray := P.filterMap fun p => fieldF p.2 w.field
theorem take_fm {α β : Type} {f : α → Option β} {l : List α} {k : Nat} {x : α} (h : l[k]? = some x) : (l.take (k + 1)).filterMap f = (l.take k).filterMap f ++ (f x).toList := by
 rw [List.take_add_one, h, List.filterMap_append]
 cases hf : f x <;> simp [hf]
theorem memG_take {w : Wv} {g : ByteArray} {P : List Pr} {k : Nat} {p : Pr} (h : P[k]? = some p) : memG w g (P.take (k + 1)) = memG w g (P.take k) ++ (if fieldF p.2 w.field = some g then [p] else []) := by
 unfold memG
 rw [List.take_add_one, h, List.filter_append]
 congr 1
 simp only [Option.toList_some, List.filter_cons, List.filter_nil, inG, decide_eq_true_eq]
theorem take_map1 {α β : Type} {f : α → β} {l : List α} {k : Nat} {x : α} (h : l[k]? = some x) : (l.take (k + 1)).map f = (l.take k).map f ++ [f x] := by
 rw [List.take_add_one, h]; simp
theorem numOf_eq {w : Wv} (hk : w.kind = 3) (Q : List Pr) : (Q.map (nOf w)).sum = sN w Q := by
 unfold sN
 congr 1
 refine List.map_congr_left fun p _ => ?_
 unfold nOf numberF
 rw [if_pos hk]
set_option maxHeartbeats 16000000 in
theorem ROf_spec (w : Wv) (hw : FitW w) (P : List Pr) (hP : P.length ≤ 1000000) (hf : FitK P) (hn : (P.map Prod.fst).Nodup) (S : Store) :
  PRet Tryz.prog 13 [.agg (encW w), .sl .no 3 (encOs (P.map kOf))] S (if vcheck w = 0 then (if fitsQ w P = true then .tup [.sl .no 3 (encRVs (rowsOf w P)), .int .i64 0] else .tup [.sl .no 3 [], .int .i64 72]) else .tup [.sl .no 3 [], .int .i64 (vcheck w)]) := by
 intro K hK
 refine pcalls_of (C := C) (fun d => d == 48 || d == 7 || d == 80 || d == 15 || d == 98 || d == 16 || d == 125 || d == 12) (fun d => d == 25) Tryz.func13 rfl rfl (by simp [Tryz.f13]) ?_
 unfold encW
 simp -implicitDefEqProofs only [go_sem, ↓reduceIte, Nat.reduceEqDiff, Nat.reduceLT, Nat.reduceLeDiff, Nat.reduceAdd, Nat.reduceMul, Nat.reduceSub, reduceCtorEq, Nat.reduceMod, Nat.reduceBEq, Int.reduceBEq, Int.reduceBNe, Int.reduceToNat, Tryz.f13]
 refine RCheck_spec w hw _ _ ?_
 by_cases h0' : ¬ vcheck w = 0
 ·have h0 := h0'
  have d0 : (vcheck w != 0) = true := by simp [h0]
  rw [if_neg h0] at hK
  simp -implicitDefEqProofs only [go_sem, ↓reduceIte, Nat.reduceEqDiff, Nat.reduceLT, Nat.reduceLeDiff, Nat.reduceAdd, Nat.reduceMul, Nat.reduceSub, reduceCtorEq, Nat.reduceMod, Nat.reduceBEq, Int.reduceBEq, Int.reduceBNe, Int.reduceToNat, d0]
  exact ⟨S, fun _ _ h => h, hK⟩
 have h0 : vcheck w = 0 := Classical.not_not.1 h0'
 have d0 : (vcheck w != 0) = false := by rw [h0]; rfl
 rw [if_pos h0] at hK
 have hml : ∀ n : Nat, (P.take n).length ≤ 1000000 := fun n => by rw [List.length_take]; omega
 simp -implicitDefEqProofs only [go_sem, ↓reduceIte, Nat.reduceEqDiff, Nat.reduceLT, Nat.reduceLeDiff, Nat.reduceAdd, Nat.reduceMul, Nat.reduceSub, reduceCtorEq, Nat.reduceMod, Nat.reduceBEq, Int.reduceBEq, Int.reduceBNe, Int.reduceToNat, d0, Bool.false_eq_true, List.length_map]
 refine vloop (fun e S' => S' = S ∧ ∃ k : Nat, k ≤ P.length ∧ e 1 = .sl .no 3 (encOs (P.map kOf)) ∧ e 2 = .ip (encW w) 0 ∧ e 7 = .sl .tail 1 (encS (txts w (P.take k))) ∧ e 33 = .sl .no 3 (encOs (P.map kOf)) ∧ e 34 = .int .i64 P.length ∧ e 35 = .int .i64 k) (fun e _ => P.length - iv (e 35)) ?_ ?_
 ·exact ⟨rfl, 0, Nat.zero_le _, by simp -implicitDefEqProofs only [go_sem, ↓reduceIte, Nat.reduceEqDiff], by unfold encW; simp -implicitDefEqProofs only [go_sem, ↓reduceIte, Nat.reduceEqDiff, Nat.reduceLT, Nat.reduceLeDiff, Nat.reduceAdd, Nat.reduceMul, Nat.reduceSub, reduceCtorEq, Nat.reduceMod, Nat.reduceBEq, Int.reduceBEq, Int.reduceBNe, Int.reduceToNat], by simp -implicitDefEqProofs only [go_sem, ↓reduceIte, Nat.reduceEqDiff]; rfl, by simp -implicitDefEqProofs only [go_sem, ↓reduceIte, Nat.reduceEqDiff], by simp -implicitDefEqProofs only [go_sem, ↓reduceIte, Nat.reduceEqDiff], by simp -implicitDefEqProofs only [go_sem, ↓reduceIte, Nat.reduceEqDiff]⟩
 ·rintro J M Q' hJ hM hQ e S' ⟨rfl, k, hk, e1, e2, e7, e33, e34, e35⟩
  unfold encW at e2
  by_cases hlt : k < P.length
  ·obtain ⟨p, hp⟩ : ∃ p, P[k]? = some p := ⟨P[k], List.getElem?_eq_getElem hlt⟩
   have hlti : (k : Int) < (P.length : Int) := by omega
   have h1 : (0 : Int) ≤ (k : Int) ∧ (k : Int) < (P.length : Int) := by omega
   have hw1 : IntKind.i64.wrap ((k : Int) + 1) = ((k + 1 : Nat) : Int) := wrap64 (by omega) (by omega)
   have hv := (hf p (List.mem_of_getElem? hp)).2
   have htk : txts w (P.take (k + 1)) = txts w (P.take k) ++ (fieldF p.2 w.field).toList := take_fm hp
   have hap : ((txts w (P.take k)).length + 1) * 16 ≤ 140737488355328 ∧ (txts w (P.take k)).length + 1 ≤ 140737488355328 := by
    have h1 := hml k
    have : (txts w (P.take k)).length ≤ (P.take k).length := List.length_filterMap_le _ _
    omega
   simp -implicitDefEqProofs only [go_sem, ↓reduceIte, Nat.reduceEqDiff, Nat.reduceLT, Nat.reduceLeDiff, Nat.reduceAdd, Nat.reduceMul, Nat.reduceSub, reduceCtorEq, Nat.reduceMod, Nat.reduceBEq, Int.reduceBEq, Int.reduceBNe, Int.reduceToNat, e2, e7, e33, e34, e35, hlti, h1, Int.toNat_natCast, getD_kOfs hp, List.length_map]
   refine RField_spec p.2 w.field hv _ _ ?_
   cases hfd : fieldF p.2 w.field with
   | none =>
    rw [hfd, Option.toList_none, List.append_nil] at htk
    unfold encFd
    simp -implicitDefEqProofs only [go_sem, ↓reduceIte, Nat.reduceEqDiff, Nat.reduceLT, Nat.reduceLeDiff, Nat.reduceAdd, Nat.reduceMul, Nat.reduceSub, reduceCtorEq, Nat.reduceMod, Nat.reduceBEq, Int.reduceBEq, Int.reduceBNe, Int.reduceToNat, e35, hw1]
    refine vnext hJ hM S' (fun _ _ h => h) ⟨rfl, k + 1, hlt, ?_, ?_, ?_, ?_, ?_, ?_⟩ ?_
    ·simp -implicitDefEqProofs only [go_sem, ↓reduceIte, Nat.reduceEqDiff, e1]
    ·unfold encW; simp -implicitDefEqProofs only [go_sem, ↓reduceIte, Nat.reduceEqDiff, Nat.reduceLT, Nat.reduceLeDiff, Nat.reduceAdd, Nat.reduceMul, Nat.reduceSub, reduceCtorEq, Nat.reduceMod, Nat.reduceBEq, Int.reduceBEq, Int.reduceBNe, Int.reduceToNat, e2]
    ·simp -implicitDefEqProofs only [go_sem, ↓reduceIte, Nat.reduceEqDiff, e7, htk]
    ·simp -implicitDefEqProofs only [go_sem, ↓reduceIte, Nat.reduceEqDiff, e33]
    ·simp -implicitDefEqProofs only [go_sem, ↓reduceIte, Nat.reduceEqDiff, e34]
    ·simp -implicitDefEqProofs only [go_sem, ↓reduceIte, Nat.reduceEqDiff]
    ·simp -implicitDefEqProofs only [go_sem, ↓reduceIte, Nat.reduceEqDiff, e35, Int.toNat_natCast]
     omega
   | some g =>
    rw [hfd, Option.toList_some] at htk
    unfold encFd
    simp -implicitDefEqProofs only [go_sem, ↓reduceIte, Nat.reduceEqDiff, Nat.reduceLT, Nat.reduceLeDiff, Nat.reduceAdd, Nat.reduceMul, Nat.reduceSub, reduceCtorEq, Nat.reduceMod, Nat.reduceBEq, Int.reduceBEq, Int.reduceBNe, Int.reduceToNat, e7, hap, e35, hw1, encS_one]
    refine vnext hJ hM S' (fun _ _ h => h) ⟨rfl, k + 1, hlt, ?_, ?_, ?_, ?_, ?_, ?_⟩ ?_
    ·simp -implicitDefEqProofs only [go_sem, ↓reduceIte, Nat.reduceEqDiff, e1]
    ·unfold encW; simp -implicitDefEqProofs only [go_sem, ↓reduceIte, Nat.reduceEqDiff, Nat.reduceLT, Nat.reduceLeDiff, Nat.reduceAdd, Nat.reduceMul, Nat.reduceSub, reduceCtorEq, Nat.reduceMod, Nat.reduceBEq, Int.reduceBEq, Int.reduceBNe, Int.reduceToNat, e2]
    ·simp -implicitDefEqProofs only [go_sem, ↓reduceIte, Nat.reduceEqDiff, htk]
    ·simp -implicitDefEqProofs only [go_sem, ↓reduceIte, Nat.reduceEqDiff, e33]
    ·simp -implicitDefEqProofs only [go_sem, ↓reduceIte, Nat.reduceEqDiff, e34]
    ·simp -implicitDefEqProofs only [go_sem, ↓reduceIte, Nat.reduceEqDiff]
    ·simp -implicitDefEqProofs only [go_sem, ↓reduceIte, Nat.reduceEqDiff, e35, Int.toNat_natCast]
     omega
  ·have hnl : ¬ (k : Int) < (P.length : Int) := by omega
   rw [List.take_of_length_le (by omega)] at e7
   obtain ⟨T, hT⟩ : ∃ T, T = txts w P := ⟨_, rfl⟩
   rw [← hT] at e7
   have hTl : T.length ≤ 1000000 := by rw [hT]; exact Nat.le_trans (List.length_filterMap_le _ _) hP
   simp -implicitDefEqProofs only [go_sem, ↓reduceIte, Nat.reduceEqDiff, Nat.reduceLT, Nat.reduceLeDiff, Nat.reduceAdd, Nat.reduceMul, Nat.reduceSub, reduceCtorEq, Nat.reduceMod, Nat.reduceBEq, Int.reduceBEq, Int.reduceBNe, Int.reduceToNat, e34, e35, hnl]
   refine hQ _ _ _ ?_
   simp -implicitDefEqProofs only [go_sem, ↓reduceIte, Nat.reduceEqDiff, Nat.reduceLT, Nat.reduceLeDiff, Nat.reduceAdd, Nat.reduceMul, Nat.reduceSub, reduceCtorEq, Nat.reduceMod, Nat.reduceBEq, Int.reduceBEq, Int.reduceBNe, Int.reduceToNat, e7]
   refine RSorted_spec T hTl _ _ ?_
   have hRl : (sortR T).length ≤ 1000000 := by have := sortR_len T []; rw [List.length_nil] at this; exact Nat.le_trans this (by omega)
   have hro : rowsOf w P = (sortR T).map (rowOf w P) := by
    unfold rowsOf
    have : sortB (groups w P) = sortR T := sortB_R (by unfold groups; exact nodup_dd) (fun x => by unfold groups; rw [mem_dd, hT]; rfl)
    rw [this]
   have hmg : ∀ x, x ∈ sortR T → memG w x P ≠ [] := fun x hx => memG_ne.2 (by
    rw [sortR_mem, hT] at hx
    obtain ⟨p, hp, he⟩ := List.mem_filterMap.1 hx
    exact ⟨p, hp, he⟩)
   have hgm : ∀ x, memG w x P ≠ [] → x ∈ sortR T := fun x hx => by
    obtain ⟨p, hp, he⟩ := memG_ne.1 hx
    rw [sortR_mem, hT]
    exact List.mem_filterMap.2 ⟨p, hp, he⟩
   have hsb : ∀ g, sortB ((memG w g P).map Prod.fst) = sortR ((memG w g P).map Prod.fst) := fun g => sortB_nodup (((List.filter_sublist).map Prod.fst).nodup hn)
   obtain ⟨R, hR⟩ : ∃ R, R = sortR T := ⟨_, rfl⟩
   rw [← hR] at hRl hro hmg hgm ⊢
   simp -implicitDefEqProofs only [go_sem, ↓reduceIte, Nat.reduceEqDiff, Nat.reduceLT, Nat.reduceLeDiff, Nat.reduceAdd, Nat.reduceMul, Nat.reduceSub, reduceCtorEq, Nat.reduceMod, Nat.reduceBEq, Int.reduceBEq, Int.reduceBNe, Int.reduceToNat, e1, e2]
   clear hQ hM hJ
   refine vloop (fun e S'' => S'' = S' ∧ ∃ k : Nat, k ≤ R.length ∧ (w.kind = 3 → ∀ g ∈ R.take k, fitF (sumOf w (memG w g P)) = true) ∧ e 1 = .sl .no 3 (encOs (P.map kOf)) ∧ e 2 = .ip (encW w) 0 ∧ e 12 = .sl .tail 3 (encRVs ((R.take k).map (rowOf w P))) ∧ e 54 = .sl .no 1 (encS R) ∧ e 55 = .int .i64 R.length ∧ e 56 = .int .i64 k) (fun e _ => R.length - iv (e 56)) ?_ ?_
   ·exact ⟨rfl, 0, Nat.zero_le _, fun _ g hg => (by cases hg), by simp -implicitDefEqProofs only [go_sem, ↓reduceIte, Nat.reduceEqDiff, e1], by unfold encW; simp -implicitDefEqProofs only [go_sem, ↓reduceIte, Nat.reduceEqDiff, Nat.reduceLT, Nat.reduceLeDiff, Nat.reduceAdd, Nat.reduceMul, Nat.reduceSub, reduceCtorEq, Nat.reduceMod, Nat.reduceBEq, Int.reduceBEq, Int.reduceBNe, Int.reduceToNat, e2], by simp -implicitDefEqProofs only [go_sem, ↓reduceIte, Nat.reduceEqDiff]; rfl, by simp -implicitDefEqProofs only [go_sem, ↓reduceIte, Nat.reduceEqDiff], by simp -implicitDefEqProofs only [go_sem, ↓reduceIte, Nat.reduceEqDiff], by simp -implicitDefEqProofs only [go_sem, ↓reduceIte, Nat.reduceEqDiff]⟩
   ·clear e1 e2 e7 e33 e34 e35
    rintro J2 M2 Q2 hJ2 hM2 hQ2 e S2 ⟨rfl, k, hk, hfits, e1, e2, e12, e54, e55, e56⟩
    unfold encW at e2
    by_cases hlt : k < R.length
    ·obtain ⟨g, hg⟩ : ∃ g, R[k]? = some g := ⟨R[k], List.getElem?_eq_getElem hlt⟩
     have hlti : (k : Int) < (R.length : Int) := by omega
     have h1 : (0 : Int) ≤ (k : Int) ∧ (k : Int) < (R.length : Int) := by omega
     have hw1 : IntKind.i64.wrap ((k : Int) + 1) = ((k + 1 : Nat) : Int) := wrap64 (by omega) (by omega)
     simp -implicitDefEqProofs only [go_sem, ↓reduceIte, Nat.reduceEqDiff, Nat.reduceLT, Nat.reduceLeDiff, Nat.reduceAdd, Nat.reduceMul, Nat.reduceSub, reduceCtorEq, Nat.reduceMod, Nat.reduceBEq, Int.reduceBEq, Int.reduceBNe, Int.reduceToNat, e1, e54, e55, e56, hlti, h1, Int.toNat_natCast, getD_encS hg, List.length_map]
     refine vloop (fun e S'' => S'' = S2 ∧ ∃ j : Nat, j ≤ P.length ∧ e 1 = .sl .no 3 (encOs (P.map kOf)) ∧ e 2 = .ip (encW w) 0 ∧ e 12 = .sl .tail 3 (encRVs ((R.take k).map (rowOf w P))) ∧ e 14 = .str g ∧ e 15 = .sl .tail 1 (encS ((memG w g (P.take j)).map Prod.fst)) ∧ e 16 = .sl .tail 1 (encJ ((memG w g (P.take j)).map (nOf w))) ∧ e 54 = .sl .no 1 (encS R) ∧ e 55 = .int .i64 R.length ∧ e 56 = .int .i64 k ∧ e 60 = .sl .no 3 (encOs (P.map kOf)) ∧ e 61 = .int .i64 P.length ∧ e 62 = .int .i64 j) (fun e _ => P.length - iv (e 62)) ?_ ?_
     ·exact ⟨rfl, 0, Nat.zero_le _, by simp -implicitDefEqProofs only [go_sem, ↓reduceIte, Nat.reduceEqDiff, e1], by unfold encW; simp -implicitDefEqProofs only [go_sem, ↓reduceIte, Nat.reduceEqDiff, Nat.reduceLT, Nat.reduceLeDiff, Nat.reduceAdd, Nat.reduceMul, Nat.reduceSub, reduceCtorEq, Nat.reduceMod, Nat.reduceBEq, Int.reduceBEq, Int.reduceBNe, Int.reduceToNat, e2], by simp -implicitDefEqProofs only [go_sem, ↓reduceIte, Nat.reduceEqDiff, e12], by simp -implicitDefEqProofs only [go_sem, ↓reduceIte, Nat.reduceEqDiff], by simp -implicitDefEqProofs only [go_sem, ↓reduceIte, Nat.reduceEqDiff]; rfl, by simp -implicitDefEqProofs only [go_sem, ↓reduceIte, Nat.reduceEqDiff]; rfl, by simp -implicitDefEqProofs only [go_sem, ↓reduceIte, Nat.reduceEqDiff, e54], by simp -implicitDefEqProofs only [go_sem, ↓reduceIte, Nat.reduceEqDiff, e55], by simp -implicitDefEqProofs only [go_sem, ↓reduceIte, Nat.reduceEqDiff, e56], by simp -implicitDefEqProofs only [go_sem, ↓reduceIte, Nat.reduceEqDiff], by simp -implicitDefEqProofs only [go_sem, ↓reduceIte, Nat.reduceEqDiff], by simp -implicitDefEqProofs only [go_sem, ↓reduceIte, Nat.reduceEqDiff]⟩
     ·rintro J3 M3 Q3 hJ3 hM3 hQ3 e3 S3 ⟨rfl, j, hj, f1, f2, f12, f14, f15, f16, f54, f55, f56, f60, f61, f62⟩
      unfold encW at f2
      by_cases hlj : j < P.length
      ·obtain ⟨p, hp⟩ : ∃ p, P[j]? = some p := ⟨P[j], List.getElem?_eq_getElem hlj⟩
       have hlji : (j : Int) < (P.length : Int) := by omega
       have h2 : (0 : Int) ≤ (j : Int) ∧ (j : Int) < (P.length : Int) := by omega
       have hw2 : IntKind.i64.wrap ((j : Int) + 1) = ((j + 1 : Nat) : Int) := wrap64 (by omega) (by omega)
       have hv := (hf p (List.mem_of_getElem? hp)).2
       have hmt := memG_take (w := w) (g := g) hp
       have hmm : (memG w g (P.take j)).length ≤ 1000000 := Nat.le_trans (List.length_filter_le _ _) (hml j)
       have a1 : (((memG w g (P.take j)).map Prod.fst).length + 1) * 16 ≤ 140737488355328 ∧ ((memG w g (P.take j)).map Prod.fst).length + 1 ≤ 140737488355328 := by rw [List.length_map]; omega
       have a2 : (((memG w g (P.take j)).map (nOf w)).length + 1) * 8 ≤ 140737488355328 ∧ ((memG w g (P.take j)).map (nOf w)).length + 1 ≤ 140737488355328 := by rw [List.length_map]; omega
       simp -implicitDefEqProofs only [go_sem, ↓reduceIte, Nat.reduceEqDiff, Nat.reduceLT, Nat.reduceLeDiff, Nat.reduceAdd, Nat.reduceMul, Nat.reduceSub, reduceCtorEq, Nat.reduceMod, Nat.reduceBEq, Int.reduceBEq, Int.reduceBNe, Int.reduceToNat, f2, f60, f61, f62, hlji, h2, Int.toNat_natCast, getD_kOfs hp, List.length_map]
       refine RField_spec p.2 w.field hv _ _ ?_
       have skip : fieldF p.2 w.field ≠ some g → memG w g (P.take (j + 1)) = memG w g (P.take j) := fun h => by rw [hmt, if_neg h, List.append_nil]
       cases hfd : fieldF p.2 w.field with
       | none =>
        have hsk := skip (by rw [hfd]; simp)
        unfold encFd
        simp -implicitDefEqProofs only [go_sem, ↓reduceIte, Nat.reduceEqDiff, Nat.reduceLT, Nat.reduceLeDiff, Nat.reduceAdd, Nat.reduceMul, Nat.reduceSub, reduceCtorEq, Nat.reduceMod, Nat.reduceBEq, Int.reduceBEq, Int.reduceBNe, Int.reduceToNat, Bool.false_eq_true, f62, hw2]
        refine vnext hJ3 hM3 S3 (fun _ _ h => h) ⟨rfl, j + 1, hlj, ?_, ?_, ?_, ?_, ?_, ?_, ?_, ?_, ?_, ?_, ?_, ?_⟩ ?_
        ·simp -implicitDefEqProofs only [go_sem, ↓reduceIte, Nat.reduceEqDiff, f1]
        ·unfold encW; simp -implicitDefEqProofs only [go_sem, ↓reduceIte, Nat.reduceEqDiff, Nat.reduceLT, Nat.reduceLeDiff, Nat.reduceAdd, Nat.reduceMul, Nat.reduceSub, reduceCtorEq, Nat.reduceMod, Nat.reduceBEq, Int.reduceBEq, Int.reduceBNe, Int.reduceToNat, f2]
        ·simp -implicitDefEqProofs only [go_sem, ↓reduceIte, Nat.reduceEqDiff, f12]
        ·simp -implicitDefEqProofs only [go_sem, ↓reduceIte, Nat.reduceEqDiff, f14]
        ·simp -implicitDefEqProofs only [go_sem, ↓reduceIte, Nat.reduceEqDiff, f15, hsk]
        ·simp -implicitDefEqProofs only [go_sem, ↓reduceIte, Nat.reduceEqDiff, f16, hsk]
        ·simp -implicitDefEqProofs only [go_sem, ↓reduceIte, Nat.reduceEqDiff, f54]
        ·simp -implicitDefEqProofs only [go_sem, ↓reduceIte, Nat.reduceEqDiff, f55]
        ·simp -implicitDefEqProofs only [go_sem, ↓reduceIte, Nat.reduceEqDiff, f56]
        ·simp -implicitDefEqProofs only [go_sem, ↓reduceIte, Nat.reduceEqDiff, f60]
        ·simp -implicitDefEqProofs only [go_sem, ↓reduceIte, Nat.reduceEqDiff, f61]
        ·simp -implicitDefEqProofs only [go_sem, ↓reduceIte, Nat.reduceEqDiff]
        ·simp -implicitDefEqProofs only [go_sem, ↓reduceIte, Nat.reduceEqDiff, f62, Int.toNat_natCast]
         omega
       | some x =>
        unfold encFd
        cases hsm : same x g
        ·have hsk := skip (by rw [hfd]; intro he; injection he with he; rw [he, same_refl] at hsm; cases hsm)
         simp -implicitDefEqProofs only [go_sem, ↓reduceIte, Nat.reduceEqDiff, Nat.reduceLT, Nat.reduceLeDiff, Nat.reduceAdd, Nat.reduceMul, Nat.reduceSub, reduceCtorEq, Nat.reduceMod, Nat.reduceBEq, Int.reduceBEq, Int.reduceBNe, Int.reduceToNat, f14, hsm, Bool.false_eq_true, f62, hw2]
         refine vnext hJ3 hM3 S3 (fun _ _ h => h) ⟨rfl, j + 1, hlj, ?_, ?_, ?_, ?_, ?_, ?_, ?_, ?_, ?_, ?_, ?_, ?_⟩ ?_
         ·simp -implicitDefEqProofs only [go_sem, ↓reduceIte, Nat.reduceEqDiff, f1]
         ·unfold encW; simp -implicitDefEqProofs only [go_sem, ↓reduceIte, Nat.reduceEqDiff, Nat.reduceLT, Nat.reduceLeDiff, Nat.reduceAdd, Nat.reduceMul, Nat.reduceSub, reduceCtorEq, Nat.reduceMod, Nat.reduceBEq, Int.reduceBEq, Int.reduceBNe, Int.reduceToNat, f2]
         ·simp -implicitDefEqProofs only [go_sem, ↓reduceIte, Nat.reduceEqDiff, f12]
         ·simp -implicitDefEqProofs only [go_sem, ↓reduceIte, Nat.reduceEqDiff, f14]
         ·simp -implicitDefEqProofs only [go_sem, ↓reduceIte, Nat.reduceEqDiff, f15, hsk]
         ·simp -implicitDefEqProofs only [go_sem, ↓reduceIte, Nat.reduceEqDiff, f16, hsk]
         ·simp -implicitDefEqProofs only [go_sem, ↓reduceIte, Nat.reduceEqDiff, f54]
         ·simp -implicitDefEqProofs only [go_sem, ↓reduceIte, Nat.reduceEqDiff, f55]
         ·simp -implicitDefEqProofs only [go_sem, ↓reduceIte, Nat.reduceEqDiff, f56]
         ·simp -implicitDefEqProofs only [go_sem, ↓reduceIte, Nat.reduceEqDiff, f60]
         ·simp -implicitDefEqProofs only [go_sem, ↓reduceIte, Nat.reduceEqDiff, f61]
         ·simp -implicitDefEqProofs only [go_sem, ↓reduceIte, Nat.reduceEqDiff]
         ·simp -implicitDefEqProofs only [go_sem, ↓reduceIte, Nat.reduceEqDiff, f62, Int.toNat_natCast]
          omega
        ·have hxg : x = g := same_iff.1 hsm
         subst hxg
         rw [hfd, if_pos rfl] at hmt
         have hm1 : (memG w x (P.take (j + 1))).map Prod.fst = (memG w x (P.take j)).map Prod.fst ++ [p.1] := by rw [hmt]; simp
         have hm2 : (memG w x (P.take (j + 1))).map (nOf w) = (memG w x (P.take j)).map (nOf w) ++ [nOf w p] := by rw [hmt]; simp
         simp -implicitDefEqProofs only [go_sem, ↓reduceIte, Nat.reduceEqDiff, Nat.reduceLT, Nat.reduceLeDiff, Nat.reduceAdd, Nat.reduceMul, Nat.reduceSub, reduceCtorEq, Nat.reduceMod, Nat.reduceBEq, Int.reduceBEq, Int.reduceBNe, Int.reduceToNat, f2, f14, f15, hsm, a1]
         refine RField_spec p.2 w.of_ hv _ _ ?_
         have hfit := @fieldF_fit p.2 w.of_
         cases hfo : fieldF p.2 w.of_ with
         | none =>
          have hno : nOf w p = (numF ⟨#[]⟩).1 := by unfold nOf; rw [hfo]; rfl
          rw [← hno.symm] at hm2
          unfold encFd
          simp -implicitDefEqProofs only [go_sem, ↓reduceIte, Nat.reduceEqDiff, Nat.reduceLT, Nat.reduceLeDiff, Nat.reduceAdd, Nat.reduceMul, Nat.reduceSub, reduceCtorEq, Nat.reduceMod, Nat.reduceBEq, Int.reduceBEq, Int.reduceBNe, Int.reduceToNat]
          refine RNumber_calls ⟨#[]⟩ (by decide) _ _ ?_
          intro er
          simp -implicitDefEqProofs only [go_sem, ↓reduceIte, Nat.reduceEqDiff, Nat.reduceLT, Nat.reduceLeDiff, Nat.reduceAdd, Nat.reduceMul, Nat.reduceSub, reduceCtorEq, Nat.reduceMod, Nat.reduceBEq, Int.reduceBEq, Int.reduceBNe, Int.reduceToNat, f16, a2, f62, hw2]
          refine vnext hJ3 hM3 S3 (fun _ _ h => h) ⟨rfl, j + 1, hlj, ?_, ?_, ?_, ?_, ?_, ?_, ?_, ?_, ?_, ?_, ?_, ?_⟩ ?_
          ·simp -implicitDefEqProofs only [go_sem, ↓reduceIte, Nat.reduceEqDiff, f1]
          ·unfold encW; simp -implicitDefEqProofs only [go_sem, ↓reduceIte, Nat.reduceEqDiff, Nat.reduceLT, Nat.reduceLeDiff, Nat.reduceAdd, Nat.reduceMul, Nat.reduceSub, reduceCtorEq, Nat.reduceMod, Nat.reduceBEq, Int.reduceBEq, Int.reduceBNe, Int.reduceToNat, f2]
          ·simp -implicitDefEqProofs only [go_sem, ↓reduceIte, Nat.reduceEqDiff, f12]
          ·simp -implicitDefEqProofs only [go_sem, ↓reduceIte, Nat.reduceEqDiff, f14]
          ·simp -implicitDefEqProofs only [go_sem, ↓reduceIte, Nat.reduceEqDiff, encS_one, hm1]
          ·simp -implicitDefEqProofs only [go_sem, ↓reduceIte, Nat.reduceEqDiff, encJ_one, hm2, hno]
          ·simp -implicitDefEqProofs only [go_sem, ↓reduceIte, Nat.reduceEqDiff, f54]
          ·simp -implicitDefEqProofs only [go_sem, ↓reduceIte, Nat.reduceEqDiff, f55]
          ·simp -implicitDefEqProofs only [go_sem, ↓reduceIte, Nat.reduceEqDiff, f56]
          ·simp -implicitDefEqProofs only [go_sem, ↓reduceIte, Nat.reduceEqDiff, f60]
          ·simp -implicitDefEqProofs only [go_sem, ↓reduceIte, Nat.reduceEqDiff, f61]
          ·simp -implicitDefEqProofs only [go_sem, ↓reduceIte, Nat.reduceEqDiff]
          ·simp -implicitDefEqProofs only [go_sem, ↓reduceIte, Nat.reduceEqDiff, f62, Int.toNat_natCast]
           omega
         | some y =>
          have hno : nOf w p = (numF y).1 := by unfold nOf; rw [hfo]; rfl
          unfold encFd
          simp -implicitDefEqProofs only [go_sem, ↓reduceIte, Nat.reduceEqDiff, Nat.reduceLT, Nat.reduceLeDiff, Nat.reduceAdd, Nat.reduceMul, Nat.reduceSub, reduceCtorEq, Nat.reduceMod, Nat.reduceBEq, Int.reduceBEq, Int.reduceBNe, Int.reduceToNat]
          refine RNumber_calls y (Nat.le_trans (hfit hfo) hv) _ _ ?_
          intro er
          simp -implicitDefEqProofs only [go_sem, ↓reduceIte, Nat.reduceEqDiff, Nat.reduceLT, Nat.reduceLeDiff, Nat.reduceAdd, Nat.reduceMul, Nat.reduceSub, reduceCtorEq, Nat.reduceMod, Nat.reduceBEq, Int.reduceBEq, Int.reduceBNe, Int.reduceToNat, f16, a2, f62, hw2]
          refine vnext hJ3 hM3 S3 (fun _ _ h => h) ⟨rfl, j + 1, hlj, ?_, ?_, ?_, ?_, ?_, ?_, ?_, ?_, ?_, ?_, ?_, ?_⟩ ?_
          ·simp -implicitDefEqProofs only [go_sem, ↓reduceIte, Nat.reduceEqDiff, f1]
          ·unfold encW; simp -implicitDefEqProofs only [go_sem, ↓reduceIte, Nat.reduceEqDiff, Nat.reduceLT, Nat.reduceLeDiff, Nat.reduceAdd, Nat.reduceMul, Nat.reduceSub, reduceCtorEq, Nat.reduceMod, Nat.reduceBEq, Int.reduceBEq, Int.reduceBNe, Int.reduceToNat, f2]
          ·simp -implicitDefEqProofs only [go_sem, ↓reduceIte, Nat.reduceEqDiff, f12]
          ·simp -implicitDefEqProofs only [go_sem, ↓reduceIte, Nat.reduceEqDiff, f14]
          ·simp -implicitDefEqProofs only [go_sem, ↓reduceIte, Nat.reduceEqDiff, encS_one, hm1]
          ·simp -implicitDefEqProofs only [go_sem, ↓reduceIte, Nat.reduceEqDiff, encJ_one, hm2, hno]
          ·simp -implicitDefEqProofs only [go_sem, ↓reduceIte, Nat.reduceEqDiff, f54]
          ·simp -implicitDefEqProofs only [go_sem, ↓reduceIte, Nat.reduceEqDiff, f55]
          ·simp -implicitDefEqProofs only [go_sem, ↓reduceIte, Nat.reduceEqDiff, f56]
          ·simp -implicitDefEqProofs only [go_sem, ↓reduceIte, Nat.reduceEqDiff, f60]
          ·simp -implicitDefEqProofs only [go_sem, ↓reduceIte, Nat.reduceEqDiff, f61]
          ·simp -implicitDefEqProofs only [go_sem, ↓reduceIte, Nat.reduceEqDiff]
          ·simp -implicitDefEqProofs only [go_sem, ↓reduceIte, Nat.reduceEqDiff, f62, Int.toNat_natCast]
           omega
      ·have hnlj : ¬ (j : Int) < (P.length : Int) := by omega
       rw [List.take_of_length_le (by omega)] at f15 f16
       simp -implicitDefEqProofs only [go_sem, ↓reduceIte, Nat.reduceEqDiff, Nat.reduceLT, Nat.reduceLeDiff, Nat.reduceAdd, Nat.reduceMul, Nat.reduceSub, reduceCtorEq, Nat.reduceMod, Nat.reduceBEq, Int.reduceBEq, Int.reduceBNe, Int.reduceToNat, f61, f62, hnlj]
       refine hQ3 _ _ _ ?_
       simp -implicitDefEqProofs only [go_sem, ↓reduceIte, Nat.reduceEqDiff, Nat.reduceLT, Nat.reduceLeDiff, Nat.reduceAdd, Nat.reduceMul, Nat.reduceSub, reduceCtorEq, Nat.reduceMod, Nat.reduceBEq, Int.reduceBEq, Int.reduceBNe, Int.reduceToNat, f2, f14, f15, f16]
       intro xid hx
       have hx7 : ∀ c, (S3.set xid c) xid = c := fun c => set_at _ _ _
       have hks : ((memG w g P).map Prod.fst).length ≤ 1000000 := by rw [List.length_map]; exact Nat.le_trans (List.length_filter_le _ _) hP
       have htk : (R.take (k + 1)).map (rowOf w P) = (R.take k).map (rowOf w P) ++ [rowOf w P g] := take_map1 hg
       have hap : ((R.take k).length + 1) * 48 ≤ 140737488355328 ∧ (R.take k).length ≤ 140737488355327 := by rw [List.length_take]; omega
       have hfn' : (w.kind = 3 → fitF (sumOf w (memG w g P)) = true) → w.kind = 3 → ∀ g' ∈ R.take (k + 1), fitF (sumOf w (memG w g' P)) = true := fun h h3 g' hg' => by
        rw [List.take_add_one, hg, List.mem_append] at hg'
        rcases hg' with hg' | hg'
        ·exact hfits h3 g' hg'
        ·simp only [Option.toList_some, List.mem_singleton] at hg'
         subst hg'
         exact h h3
       by_cases k1 : w.kind = 1
       ·have d1 : (w.kind == 1) = true := by rw [k1]; rfl
        have d3 : (w.kind == 3) = false := by rw [k1]; rfl
        have k3 : ¬ w.kind = 3 := by omega
        have hfn := hfn' (fun h => absurd h k3)
        simp -implicitDefEqProofs only [go_sem, ↓reduceIte, Nat.reduceEqDiff, Nat.reduceLT, Nat.reduceLeDiff, Nat.reduceAdd, Nat.reduceMul, Nat.reduceSub, reduceCtorEq, Nat.reduceMod, Nat.reduceBEq, Int.reduceBEq, Int.reduceBNe, Int.reduceToNat, d1, f15]
        refine RSorted_spec _ hks _ _ ?_
        rw [← hsb g]
        simp -implicitDefEqProofs only [go_sem, ↓reduceIte, Nat.reduceEqDiff, Nat.reduceLT, Nat.reduceLeDiff, Nat.reduceAdd, Nat.reduceMul, Nat.reduceSub, reduceCtorEq, Nat.reduceMod, Nat.reduceBEq, Int.reduceBEq, Int.reduceBNe, Int.reduceToNat, hx7, psplice, set_set, f2, d3, f12, f56, hap, hw1, Bool.false_eq_true, List.length_map]
        refine vnext hJ2 hM2 S3 (fun id c h => by rw [Go.VL.set_ne (fun he => by rw [he, hx] at h; cases h)]; exact h) ⟨rfl, k + 1, hlt, hfn, ?_, ?_, ?_, ?_, ?_, ?_⟩ ?_
        ·simp -implicitDefEqProofs only [go_sem, ↓reduceIte, Nat.reduceEqDiff, f1]
        ·unfold encW; simp -implicitDefEqProofs only [go_sem, ↓reduceIte, Nat.reduceEqDiff, Nat.reduceLT, Nat.reduceLeDiff, Nat.reduceAdd, Nat.reduceMul, Nat.reduceSub, reduceCtorEq, Nat.reduceMod, Nat.reduceBEq, Int.reduceBEq, Int.reduceBNe, Int.reduceToNat, f2]
        ·simp -implicitDefEqProofs only [go_sem, ↓reduceIte, Nat.reduceEqDiff]; rw [encRVs_one, htk]; unfold rowOf; simp only [if_pos k1, if_neg k3]
        ·simp -implicitDefEqProofs only [go_sem, ↓reduceIte, Nat.reduceEqDiff, f54]
        ·simp -implicitDefEqProofs only [go_sem, ↓reduceIte, Nat.reduceEqDiff, f55]
        ·simp -implicitDefEqProofs only [go_sem, ↓reduceIte, Nat.reduceEqDiff]
        ·simp -implicitDefEqProofs only [go_sem, ↓reduceIte, Nat.reduceEqDiff, e56, f56, hw1, Int.toNat_natCast]
         omega
       ·have d1 : (w.kind == 1) = false := beq_eq_false_iff_ne.2 k1
        by_cases k3 : w.kind = 3
        ·have d3 : (w.kind == 3) = true := by rw [k3]; rfl
         simp -implicitDefEqProofs only [go_sem, ↓reduceIte, Nat.reduceEqDiff, Nat.reduceLT, Nat.reduceLeDiff, Nat.reduceAdd, Nat.reduceMul, Nat.reduceSub, reduceCtorEq, Nat.reduceMod, Nat.reduceBEq, Int.reduceBEq, Int.reduceBNe, Int.reduceToNat, d1, d3, f2, f16, Bool.false_eq_true]
         refine RAdd_spec ((memG w g P).map (nOf w)) (by rw [List.length_map]; exact Nat.le_trans (List.length_filter_le _ _) hP) (fun x hx => by obtain ⟨q, _, rfl⟩ := List.mem_map.1 hx; exact numF_in _) _ _ ?_
         have hsf := sum_fit (w := w) (Q := memG w g P) (by rw [List.length_map] at hks; exact hks)
         have hadd : addR ((memG w g P).map (nOf w)) = if in64 (sN w (memG w g P)) then (sN w (memG w g P), true) else (0, false) := by
          unfold addR; rw [numOf_eq k3]
         rw [hadd]
         by_cases hin : in64 (sN w (memG w g P))
         ·have hft : fitF (sumOf w (memG w g P)) = true := by rw [hsf.1, decide_eq_true hin]
          have hvl := hsf.2 hft
          have hfn := hfn' (fun _ => hft)
          rw [if_pos hin]
          simp -implicitDefEqProofs only [go_sem, ↓reduceIte, Nat.reduceEqDiff, Nat.reduceLT, Nat.reduceLeDiff, Nat.reduceAdd, Nat.reduceMul, Nat.reduceSub, reduceCtorEq, Nat.reduceMod, Nat.reduceBEq, Int.reduceBEq, Int.reduceBNe, Int.reduceToNat, Bool.not_true, Bool.false_eq_true, hx7, psplice, set_set, f12, f56, hap, hw1, List.length_map]
          refine vnext hJ2 hM2 S3 (fun id c h => by rw [Go.VL.set_ne (fun he => by rw [he, hx] at h; cases h)]; exact h) ⟨rfl, k + 1, hlt, hfn, ?_, ?_, ?_, ?_, ?_, ?_⟩ ?_
          ·simp -implicitDefEqProofs only [go_sem, ↓reduceIte, Nat.reduceEqDiff, f1]
          ·unfold encW; simp -implicitDefEqProofs only [go_sem, ↓reduceIte, Nat.reduceEqDiff, Nat.reduceLT, Nat.reduceLeDiff, Nat.reduceAdd, Nat.reduceMul, Nat.reduceSub, reduceCtorEq, Nat.reduceMod, Nat.reduceBEq, Int.reduceBEq, Int.reduceBNe, Int.reduceToNat, f2]
          ·simp -implicitDefEqProofs only [go_sem, ↓reduceIte, Nat.reduceEqDiff]; rw [encRVs_one0, htk]; unfold rowOf; simp only [if_neg k1, if_pos k3, if_pos hft, hvl]
          ·simp -implicitDefEqProofs only [go_sem, ↓reduceIte, Nat.reduceEqDiff, f54]
          ·simp -implicitDefEqProofs only [go_sem, ↓reduceIte, Nat.reduceEqDiff, f55]
          ·simp -implicitDefEqProofs only [go_sem, ↓reduceIte, Nat.reduceEqDiff]
          ·simp -implicitDefEqProofs only [go_sem, ↓reduceIte, Nat.reduceEqDiff, e56, f56, hw1, Int.toNat_natCast]
           omega
         ·have hft : fitF (sumOf w (memG w g P)) = false := by rw [hsf.1, decide_eq_false hin]
          have hnf : ¬ fitsQ w P = true := fun h => by
           have := fitsQ_iff.1 h g (hmg g (List.mem_of_getElem? hg))
           rw [hft] at this; cases this
          rw [if_neg hin]
          rw [if_neg hnf] at hK
          simp -implicitDefEqProofs only [go_sem, ↓reduceIte, Nat.reduceEqDiff, Nat.reduceLT, Nat.reduceLeDiff, Nat.reduceAdd, Nat.reduceMul, Nat.reduceSub, reduceCtorEq, Nat.reduceMod, Nat.reduceBEq, Int.reduceBEq, Int.reduceBNe, Int.reduceToNat, Bool.not_false]
          refine hQ2 _ _ _ ?_
          simp -implicitDefEqProofs only [go_sem, ↓reduceIte, Nat.reduceEqDiff, Nat.reduceLT, Nat.reduceLeDiff, Nat.reduceAdd, Nat.reduceMul, Nat.reduceSub, reduceCtorEq, Nat.reduceMod, Nat.reduceBEq, Int.reduceBEq, Int.reduceBNe, Int.reduceToNat]
          exact ⟨S3, fun id c h => by rw [Go.VL.set_ne (fun he => by rw [he, hx] at h; cases h)]; exact h, hK⟩
        ·have d3 : (w.kind == 3) = false := beq_eq_false_iff_ne.2 k3
         have hfn := hfn' (fun h => absurd h k3)
         simp -implicitDefEqProofs only [go_sem, ↓reduceIte, Nat.reduceEqDiff, Nat.reduceLT, Nat.reduceLeDiff, Nat.reduceAdd, Nat.reduceMul, Nat.reduceSub, reduceCtorEq, Nat.reduceMod, Nat.reduceBEq, Int.reduceBEq, Int.reduceBNe, Int.reduceToNat, d1, d3, f2, Bool.false_eq_true, hx7, psplice, set_set, f12, f56, hap, hw1, List.length_map]
         refine vnext hJ2 hM2 S3 (fun id c h => by rw [Go.VL.set_ne (fun he => by rw [he, hx] at h; cases h)]; exact h) ⟨rfl, k + 1, hlt, hfn, ?_, ?_, ?_, ?_, ?_, ?_⟩ ?_
         ·simp -implicitDefEqProofs only [go_sem, ↓reduceIte, Nat.reduceEqDiff, f1]
         ·unfold encW; simp -implicitDefEqProofs only [go_sem, ↓reduceIte, Nat.reduceEqDiff, Nat.reduceLT, Nat.reduceLeDiff, Nat.reduceAdd, Nat.reduceMul, Nat.reduceSub, reduceCtorEq, Nat.reduceMod, Nat.reduceBEq, Int.reduceBEq, Int.reduceBNe, Int.reduceToNat, f2]
         ·simp -implicitDefEqProofs only [go_sem, ↓reduceIte, Nat.reduceEqDiff]; rw [encRVs_one0, htk]; unfold rowOf; simp only [if_neg k1, if_neg k3]
         ·simp -implicitDefEqProofs only [go_sem, ↓reduceIte, Nat.reduceEqDiff, f54]
         ·simp -implicitDefEqProofs only [go_sem, ↓reduceIte, Nat.reduceEqDiff, f55]
         ·simp -implicitDefEqProofs only [go_sem, ↓reduceIte, Nat.reduceEqDiff]
         ·simp -implicitDefEqProofs only [go_sem, ↓reduceIte, Nat.reduceEqDiff, e56, f56, hw1, Int.toNat_natCast]
          omega

    ·have hnl : ¬ (k : Int) < (R.length : Int) := by omega
     rw [List.take_of_length_le (by omega)] at hfits e12
     have hfq : fitsQ w P = true := by
      by_cases h3 : w.kind = 3
      ·exact fitsQ_iff.2 fun g hg => hfits h3 g (hgm g hg)
      ·exact fits_nosum h3 P
     rw [if_pos hfq, hro] at hK
     simp -implicitDefEqProofs only [go_sem, ↓reduceIte, Nat.reduceEqDiff, Nat.reduceLT, Nat.reduceLeDiff, Nat.reduceAdd, Nat.reduceMul, Nat.reduceSub, reduceCtorEq, Nat.reduceMod, Nat.reduceBEq, Int.reduceBEq, Int.reduceBNe, Int.reduceToNat, e55, e56, hnl]
     refine hQ2 _ _ _ ?_
     simp -implicitDefEqProofs only [go_sem, ↓reduceIte, Nat.reduceEqDiff, Nat.reduceLT, Nat.reduceLeDiff, Nat.reduceAdd, Nat.reduceMul, Nat.reduceSub, reduceCtorEq, Nat.reduceMod, Nat.reduceBEq, Int.reduceBEq, Int.reduceBNe, Int.reduceToNat, e12]
     exact ⟨S2, fun _ _ h => h, hK⟩
end Go.Proofs.YtdioedabjaaboaaGreat.V
