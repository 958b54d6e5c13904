/- Views: a view over all of a map. -/
import Derived.Test.YtdioedabjaaboaaGreatXG
set_option linter.unusedVariables false
set_option linter.unusedSimpArgs false
namespace Go.Proofs.YtdioedabjaaboaaGreat.V
open Go Go.VL

def FitP (P : List Pr) : Prop := ∀ p ∈ P, p.2.size ≤ 1000000
theorem getD_kOf {P : List Pr} {k : Nat} {p : Pr} (h : P[k]? = some p) : (encOs (P.map kOf)).getD k [] = [.str p.1, .bool true, .str p.2] := by
 have : (P.map kOf)[k]? = some (kOf p) := by rw [List.getElem?_map, h]; rfl
 rw [getD_encOs this]; rfl
theorem build_calls (w : Wv) (P : List Pr) (hP : P.length ≤ 1000000) (hf : FitP P) (hn : (P.map Prod.fst).Nodup) (S : Store) (K : PV → Store → Prop)
  (hK : ∀ S' gid kd, NewTab S S' w gid P kd → K (.tup [.agg (encT w gid), .bool (fitsQ w P)]) S') : PCalls Tryz.prog 44 [.agg (encW w), .sl .no 3 (encOs (P.map kOf))] S K := by
 refine pcalls_of (C := C) (fun _ => false) (fun d => d == 10) Tryz.func44 rfl rfl (by simp [Tryz.f44]) ?_
 unfold encW
 simp -implicitDefEqProofs only [go_sem, ↓reduceIte, Nat.reduceEqDiff, Nat.reduceLT, Nat.reduceLeDiff, Nat.reduceAdd, Nat.reduceMul, Nat.reduceSub, reduceCtorEq, Nat.reduceMod, Nat.reduceBEq, Int.reduceBEq, Int.reduceBNe, Int.reduceToNat, Tryz.f44]
 intro gid hg
 have hm0 : MC (S.set gid (some [PV.mcon 0 [] []])) gid 0 [] [] := ⟨mapAt_set, rfl, by simp, by simp⟩
 have ht0 : NewTab S (S.set gid (some [PV.mcon 0 [] []])) w gid [] (fun _ => 0) := by
  refine ⟨⟨⟨0, [], [], hm0, by simp [ks], ?_⟩, ?_, ?_⟩, ?_, hg, ?_⟩
  ·intro g v; simp [memG]
  ·intro g h; simp [memG] at h
  ·intro g g' h; simp [memG] at h
  ·intro id x hx
   rw [Go.VL.set_ne (fun h => by rw [h, hg] at hx; cases hx), hx]
  ·intro g h; simp [memG] at h
 simp -implicitDefEqProofs only [go_sem, ↓reduceIte, Nat.reduceEqDiff, Nat.reduceLT, Nat.reduceLeDiff, Nat.reduceAdd, Nat.reduceMul, Nat.reduceSub, reduceCtorEq, Nat.reduceMod, Nat.reduceBEq, Int.reduceBEq, Int.reduceBNe, Int.reduceToNat, List.length_map]
 refine vloop (fun e S' => ∃ (k : Nat) (kd : ByteArray → Nat), k ≤ P.length ∧ NewTab S S' w gid (P.take k).reverse kd ∧ e 6 = .ip (encT w gid) 0 ∧ e 12 = .sl .no 3 (encOs (P.map kOf)) ∧ e 13 = .int .i64 P.length ∧ e 14 = .int .i64 k ∧ e 4 = .fresh 5) (fun e _ => P.length - iv (e 14)) ?_ ?_
 ·exact ⟨0, _, Nat.zero_le _, ht0, rfl, rfl, rfl, rfl, rfl⟩
 ·rintro J M Q' hJ hM hQ e S' ⟨k, kd, hk, ht, e6, e12, e13, e14, e4⟩
  by_cases hlt : k < P.length
  ·obtain ⟨p, hp⟩ : ∃ p, P[k]? = some p := ⟨P[k], List.getElem?_eq_getElem hlt⟩
   have hlti : (k : Int) < (P.length : Int) := by omega
   have h0 : (0 : Int) ≤ (k : Int) ∧ (k : Int) < (P.length : Int) := by omega
   have hw : IntKind.i64.wrap ((k : Int) + 1) = ((k + 1 : Nat) : Int) := wrap64 (by omega) (by omega)
   have hr : (P.take (k + 1)).reverse = p :: (P.take k).reverse := by
    rw [List.take_add_one, hp]; simp
   have hnot : p.1 ∉ ((P.take k).reverse).map Prod.fst := by
    intro hx
    rw [List.map_reverse, List.mem_reverse] at hx
    have h1 : ((P.take (k + 1)).map Prod.fst).Nodup := (List.take_sublist _ _).map _ |>.nodup hn
    rw [List.take_add_one, hp] at h1
    simp only [Option.toList_some, List.map_append, List.map_cons, List.map_nil] at h1
    exact (List.nodup_append.1 h1).2.2 _ hx _ (by simp) rfl
   simp -implicitDefEqProofs only [go_sem, ↓reduceIte, Nat.reduceEqDiff, Nat.reduceLT, Nat.reduceLeDiff, Nat.reduceAdd, Nat.reduceMul, Nat.reduceSub, reduceCtorEq, Nat.reduceMod, Nat.reduceBEq, Int.reduceBEq, Int.reduceBNe, Int.reduceToNat, e6, e12, e13, e14, hlti, h0, Int.toNat_natCast, getD_kOf hp, len_encOs, List.length_map]
   refine ht.add p.1 p.2 hnot (hf p (List.mem_of_getElem? hp)) _ ?_
   intro S'' kd' ht'
   simp -implicitDefEqProofs only [go_sem, ↓reduceIte, Nat.reduceEqDiff, Nat.reduceLT, Nat.reduceLeDiff, Nat.reduceAdd, Nat.reduceMul, Nat.reduceSub, reduceCtorEq, Nat.reduceMod, Nat.reduceBEq, Int.reduceBEq, Int.reduceBNe, Int.reduceToNat, e14, hw]
   refine vnext hJ hM S'' (fun _ _ h => h) ⟨k + 1, kd', hlt, by rw [hr]; exact ht', ?_, ?_, ?_, ?_, ?_⟩ ?_
   ·simp -implicitDefEqProofs only [go_sem, ↓reduceIte, Nat.reduceEqDiff, e6]
   ·simp -implicitDefEqProofs only [go_sem, ↓reduceIte, Nat.reduceEqDiff, e12]
   ·simp -implicitDefEqProofs only [go_sem, ↓reduceIte, Nat.reduceEqDiff, e13]
   ·simp -implicitDefEqProofs only [go_sem, ↓reduceIte, Nat.reduceEqDiff]
   ·simp -implicitDefEqProofs only [go_sem, ↓reduceIte, Nat.reduceEqDiff, e4]
   ·simp -implicitDefEqProofs only [go_sem, ↓reduceIte, Nat.reduceEqDiff, e14, Int.toNat_natCast]
    omega
  ·have hnl : ¬ (k : Int) < (P.length : Int) := by omega
   have hkl : k = P.length := by omega
   have htk : P.take k = P := by rw [hkl, List.take_length]
   rw [htk] at ht
   have htp : NewTab S S' w gid P kd := ⟨ht.tab.perm (List.reverse_perm P), ht.old, ht.top, fun g hg => ht.sub g ((perm_ne (memG_perm (List.reverse_perm P))).2 hg)⟩
   simp -implicitDefEqProofs only [go_sem, ↓reduceIte, Nat.reduceEqDiff, Nat.reduceLT, Nat.reduceLeDiff, Nat.reduceAdd, Nat.reduceMul, Nat.reduceSub, reduceCtorEq, Nat.reduceMod, Nat.reduceBEq, Int.reduceBEq, Int.reduceBNe, Int.reduceToNat, e13, e14, hnl]
   refine hQ _ _ _ ?_
   unfold encT at e6
   simp -implicitDefEqProofs only [go_sem, ↓reduceIte, Nat.reduceEqDiff, Nat.reduceLT, Nat.reduceLeDiff, Nat.reduceAdd, Nat.reduceMul, Nat.reduceSub, reduceCtorEq, Nat.reduceMod, Nat.reduceBEq, Int.reduceBEq, Int.reduceBNe, Int.reduceToNat]
   refine vwp_draw (i := 7) (by decide +kernel) ?_
   simp -implicitDefEqProofs only [go_sem, ↓reduceIte, Nat.reduceEqDiff, Nat.reduceLT, Nat.reduceLeDiff, Nat.reduceAdd, Nat.reduceMul, Nat.reduceSub, reduceCtorEq, Nat.reduceMod, Nat.reduceBEq, Int.reduceBEq, Int.reduceBNe, Int.reduceToNat, e6]
   refine q_call _ (by simp -implicitDefEqProofs only [go_sem, ↓reduceIte, Nat.reduceEqDiff, e6]; exact fits_spec htp.tab) (by decide) rfl ?_
   simp -implicitDefEqProofs only [go_sem, ↓reduceIte, Nat.reduceEqDiff, Nat.reduceLT, Nat.reduceLeDiff, Nat.reduceAdd, Nat.reduceMul, Nat.reduceSub, reduceCtorEq, Nat.reduceMod, Nat.reduceBEq, Int.reduceBEq, Int.reduceBNe, Int.reduceToNat, e4]
   exact ⟨S', fun _ _ h => h, hK S' gid kd htp⟩
end Go.Proofs.YtdioedabjaaboaaGreat.V
