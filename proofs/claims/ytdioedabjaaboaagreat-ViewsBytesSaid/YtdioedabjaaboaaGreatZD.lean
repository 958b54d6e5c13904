/- Bytes of views: the document reads. -/
import Derived.Test.YtdioedabjaaboaaGreatZC
set_option linter.unusedVariables false
set_option linter.unusedSimpArgs false
namespace Go.Proofs.YtdioedabjaaboaaGreat.V
open Go Go.VL

theorem nz {e : Int} (h : e ≠ 0) : (e != 0) = true ∧ (e == 0) = false := by simp [h]
theorem zz {e : Int} (h : e = 0) : (e != 0) = false ∧ (e == 0) = true := by simp [h]
theorem on_bad {S : Store} {id : Nat} {s : Rd} (hs : S id = some (rcells s)) (k e : Int) (he : e ≠ 0) (K : PV → Store → Prop) (hK : K (.bool false) (S.set id (some (rcells { s with e := e })))) : PCalls Tryz.prog 103 [.ref id 0, .int .i64 k, .int .i64 e] S K := by
 refine pcalls_of (C := C) (fun _ => false) (fun _ => false) Tryz.func103 rfl rfl (by simp [Tryz.f103]) ?_
 unfold rcells at hs hK
 simp -implicitDefEqProofs only [go_sem, ↓reduceIte, Nat.reduceEqDiff, Nat.reduceLT, Nat.reduceLeDiff, Nat.reduceAdd, Nat.reduceMul, Nat.reduceSub, reduceCtorEq, Nat.reduceMod, Nat.reduceBEq, Int.reduceBEq, Int.reduceBNe, Int.reduceToNat, Tryz.f103, (nz he).1, hs, psplice]
 exact ⟨_, fun _ _ h => h, hK⟩
theorem on_ok {S : Store} {id : Nat} {s : Rd} (hs : S id = some (rcells s)) (k : Nat) (hk : s.p + k ≤ 9000000) (K : PV → Store → Prop) (hK : K (.bool true) (S.set id (some (rcells { s with p := s.p + k })))) : PCalls Tryz.prog 103 [.ref id 0, .int .i64 k, .int .i64 0] S K := by
 refine pcalls_of (C := C) (fun _ => false) (fun _ => false) Tryz.func103 rfl rfl (by simp [Tryz.f103]) ?_
 unfold rcells at hs hK
 have hw : IntKind.i64.wrap ((s.p : Int) + k) = ((s.p + k : Nat) : Int) := wrap64 (by omega) (by omega)
 have h0 : ((0 : Int) != 0) = false := rfl
 simp -implicitDefEqProofs only [go_sem, ↓reduceIte, Nat.reduceEqDiff, Nat.reduceLT, Nat.reduceLeDiff, Nat.reduceAdd, Nat.reduceMul, Nat.reduceSub, reduceCtorEq, Nat.reduceMod, Nat.reduceBEq, Int.reduceBEq, Int.reduceBNe, Int.reduceToNat, Tryz.f103, h0, hs, psplice, hw]
 exact ⟨_, fun _ _ h => h, hK⟩
theorem tail_take (b : List UInt8) (p : Nat) : List.take (b.length - p) (List.drop p (encB b)) = encB (b.drop p) := by
 rw [encB_drop, List.take_of_length_le (by rw [len_encB, List.length_drop]; exact Nat.le_refl _)]
theorem pbs_encB : ∀ l : List UInt8, pbs (encB l) = some (l.map fun c => (c.toNat : Int))
 | [] => rfl
 | c :: l => by
  have := pbs_encB l
  show (match pb1 _, pbs (encB l) with | some n, some ns => some (n :: ns) | _, _ => none) = _
  rw [this]
  rfl
theorem bsOf_go : ∀ (l : List UInt8) (a : ByteArray), (l.map fun c => (c.toNat : Int)).foldl (fun r n => r.push (UInt8.ofNat n.toNat)) a = ⟨a.data ++ l.toArray⟩
 | [], a => by simp
 | c :: l, a => by
  rw [List.map_cons, List.foldl_cons, bsOf_go l]
  have : UInt8.ofNat ((c.toNat : Int)).toNat = c := by simp
  rw [this]
  congr 1
  show (a.data.push c) ++ l.toArray = _
  simp
theorem bsOf_str (l : List UInt8) : bsOf (l.map fun c => (c.toNat : Int)) = strOf l := by
 unfold bsOf
 rw [bsOf_go]
 unfold strOf
 congr 1
 simp [ByteArray.empty, ByteArray.emptyWithCapacity]
 rfl
theorem drop_ok {s : Rd} (ok : s.Ok) : (s.b.drop s.p).length ≤ 900000 := by
 rw [List.length_drop]
 have := ok.2
 omega

set_option maxHeartbeats 1000000 in
set_option maxHeartbeats 1000000 in
set_option maxHeartbeats 1000000 in
theorem rText_calls {S : Store} {id : Nat} {s : Rd} (hs : S id = some (rcells s)) (ok : s.Ok) (most : Nat) (K : PV → Store → Prop) (hK : K (.str (rText most s).1) (S.set id (some (rcells (rText most s).2)))) : PCalls Tryz.prog 78 [.ref id 0, .int .i64 most] S K := by
 refine pcalls_of (C := C) (fun _ => false) (fun _ => false) Tryz.func78 rfl rfl (by simp [Tryz.f78]) ?_
 have hs' := hs
 unfold rcells at hs'
 unfold rText at hK
 by_cases he : s.e = 0
 ·rw [if_pos he] at hK
  have hb := rdNum_lt (s.b.drop s.p)
  rw [List.length_drop] at hb
  have ho := ok.1
  have ho2 := ok.2
  have hnum := rnumber_fn (s.b.drop s.p) (drop_ok ok)
  have hbd : (0 : Int) ≤ (s.p : Int) ∧ (s.p : Int) ≤ (s.b.length : Int) := by omega
  simp -implicitDefEqProofs only [go_sem, ↓reduceIte, Nat.reduceEqDiff, Nat.reduceLT, Nat.reduceLeDiff, Nat.reduceAdd, Nat.reduceMul, Nat.reduceSub, reduceCtorEq, Nat.reduceMod, Nat.reduceBEq, Int.reduceBEq, Int.reduceBNe, Int.reduceToNat, Tryz.f78, (zz he).1, hs']
  refine vwp_draw (by decide +kernel) ?_
  have hbe : (s.b.length : Int) ≤ (s.b.length : Int) := Int.le_refl _
  have htk := tail_take s.b s.p
  simp -implicitDefEqProofs only [go_sem, ↓reduceIte, Nat.reduceEqDiff, Nat.reduceLT, Nat.reduceLeDiff, Nat.reduceAdd, Nat.reduceMul, Nat.reduceSub, reduceCtorEq, Nat.reduceMod, Nat.reduceBEq, Int.reduceBEq, Int.reduceBNe, Int.reduceToNat, hs', hbd, hbe, htk]
  refine q_call _ (by simp -implicitDefEqProofs only [go_sem, ↓reduceIte, Nat.reduceEqDiff]; exact hnum _) (by decide) rfl ?_
  generalize rdNum (s.b.drop s.p) = r at hb hK ⊢
  obtain ⟨n, k, e⟩ := r
  dsimp only at hb hK ⊢
  have w1 : IntKind.i64.wrap ((s.b.length : Int) - (s.p : Int)) = ((s.b.length - s.p : Nat) : Int) := by rw [wrap64 (by omega) (by omega)]; omega
  have w2 : IntKind.i64.wrap (((s.b.length - s.p : Nat) : Int) - (k : Int)) = ((s.b.length - s.p - k : Nat) : Int) := by rw [wrap64 (by omega) (by omega)]; omega
  by_cases hz : e = 0
  ·subst hz
   by_cases h1 : most < n
   ·have hw : textE n (s.b.length - s.p - k) most 0 = 4 := by unfold textE; rw [if_pos rfl, if_pos h1]
    rw [hw, if_neg (by decide)] at hK
    have d0 : (0 : Int) < (n : Int) := by omega
    have d1 : (most : Int) < (n : Int) := by omega
    have z4 : ((4 : Int) == 0) = false := rfl
    simp -implicitDefEqProofs only [go_sem, ↓reduceIte, Nat.reduceEqDiff, Nat.reduceLT, Nat.reduceLeDiff, Nat.reduceAdd, Nat.reduceMul, Nat.reduceSub, reduceCtorEq, Nat.reduceMod, Nat.reduceBEq, Int.reduceBEq, Int.reduceBNe, Int.reduceToNat, e00, d0, d1]
    refine vwp_draw (by decide +kernel) ?_
    simp -implicitDefEqProofs only [go_sem, ↓reduceIte, Nat.reduceEqDiff, Nat.reduceLT, Nat.reduceLeDiff, Nat.reduceAdd, Nat.reduceMul, Nat.reduceSub, reduceCtorEq, Nat.reduceMod, Nat.reduceBEq, Int.reduceBEq, Int.reduceBNe, Int.reduceToNat, z4]
    refine on_bad hs _ _ (by decide) _ ?_
    simp -implicitDefEqProofs only [go_sem, ↓reduceIte, Nat.reduceEqDiff, Nat.reduceLT, Nat.reduceLeDiff, Nat.reduceAdd, Nat.reduceMul, Nat.reduceSub, reduceCtorEq, Nat.reduceMod, Nat.reduceBEq, Int.reduceBEq, Int.reduceBNe, Int.reduceToNat]
    exact ⟨_, fun _ _ h => h, hK⟩
   ·have d1 : ¬ (most : Int) < (n : Int) := by omega
    by_cases h2 : s.b.length - s.p - k < n
    ·have hw : textE n (s.b.length - s.p - k) most 0 = 2 := by unfold textE; rw [if_pos rfl, if_neg h1, if_pos h2]
     rw [hw, if_neg (by decide)] at hK
     have d0 : (0 : Int) < (n : Int) := by omega
     have d2 : ((s.b.length - s.p - k : Nat) : Int) < (n : Int) := by omega
     simp -implicitDefEqProofs only [go_sem, ↓reduceIte, Nat.reduceEqDiff, Nat.reduceLT, Nat.reduceLeDiff, Nat.reduceAdd, Nat.reduceMul, Nat.reduceSub, reduceCtorEq, Nat.reduceMod, Nat.reduceBEq, Int.reduceBEq, Int.reduceBNe, Int.reduceToNat, e00, d0, d1]
     refine vwp_draw (by decide +kernel) ?_
     simp -implicitDefEqProofs only [go_sem, ↓reduceIte, Nat.reduceEqDiff, Nat.reduceLT, Nat.reduceLeDiff, Nat.reduceAdd, Nat.reduceMul, Nat.reduceSub, reduceCtorEq, Nat.reduceMod, Nat.reduceBEq, Int.reduceBEq, Int.reduceBNe, Int.reduceToNat, hs', w1, w2, d2, e00]
     refine on_bad hs _ _ (by decide) _ ?_
     simp -implicitDefEqProofs only [go_sem, ↓reduceIte, Nat.reduceEqDiff, Nat.reduceLT, Nat.reduceLeDiff, Nat.reduceAdd, Nat.reduceMul, Nat.reduceSub, reduceCtorEq, Nat.reduceMod, Nat.reduceBEq, Int.reduceBEq, Int.reduceBNe, Int.reduceToNat]
     exact ⟨_, fun _ _ h => h, hK⟩
    ·have hw : textE n (s.b.length - s.p - k) most 0 = 0 := by unfold textE; rw [if_pos rfl, if_neg h1, if_neg h2]
     rw [hw, if_pos rfl] at hK
     have d2 : ¬ ((s.b.length - s.p - k : Nat) : Int) < (n : Int) := by omega
     have w3 : IntKind.i64.wrap ((k : Int) + (n : Int)) = ((k + n : Nat) : Int) := wrap64 (by omega) (by omega)
     have w4 : IntKind.i64.wrap (((s.p + (k + n) : Nat) : Int) - (n : Int)) = ((s.p + k : Nat) : Int) := by rw [wrap64 (by omega) (by omega)]; omega
     have hs2 : (S.set id (some (rcells { s with p := s.p + (k + n) }))) id = some [.sl .no 1 (encB s.b), .int .i64 ((s.p + (k + n) : Nat) : Int), .int .i64 s.e] := by simp [Store.set, rcells]
     have bd2 : (0 : Int) ≤ ((s.p + k : Nat) : Int) ∧ ((s.p + k : Nat) : Int) ≤ ((s.p + (k + n) : Nat) : Int) ∧ ((s.p + (k + n) : Nat) : Int) ≤ (s.b.length : Int) := by omega
     have hts := bsOf_str ((s.b.drop (s.p + k)).take (s.p + (k + n) - (s.p + k)))
     rw [show s.p + (k + n) - (s.p + k) = n by omega] at hts
     have hnn : s.p + (k + n) - (s.p + k) = n := by omega
     rw [Nat.add_assoc] at hK
     rcases Nat.eq_zero_or_pos n with hn0 | hn0
     ·have d0 : ¬ (0 : Int) < (n : Int) := by omega
      simp -implicitDefEqProofs only [go_sem, ↓reduceIte, Nat.reduceEqDiff, Nat.reduceLT, Nat.reduceLeDiff, Nat.reduceAdd, Nat.reduceMul, Nat.reduceSub, reduceCtorEq, Nat.reduceMod, Nat.reduceBEq, Int.reduceBEq, Int.reduceBNe, Int.reduceToNat, e00, d0]
      refine vwp_draw (by decide +kernel) ?_
      simp -implicitDefEqProofs only [go_sem, ↓reduceIte, Nat.reduceEqDiff, Nat.reduceLT, Nat.reduceLeDiff, Nat.reduceAdd, Nat.reduceMul, Nat.reduceSub, reduceCtorEq, Nat.reduceMod, Nat.reduceBEq, Int.reduceBEq, Int.reduceBNe, Int.reduceToNat, hs', w1, w2, d2, e00, w3]
      refine on_ok hs _ (by omega) _ ?_
      simp -implicitDefEqProofs only [go_sem, ↓reduceIte, Nat.reduceEqDiff, Nat.reduceLT, Nat.reduceLeDiff, Nat.reduceAdd, Nat.reduceMul, Nat.reduceSub, reduceCtorEq, Nat.reduceMod, Nat.reduceBEq, Int.reduceBEq, Int.reduceBNe, Int.reduceToNat]
      refine vwp_draw (by decide +kernel) ?_
      simp -implicitDefEqProofs only [go_sem, ↓reduceIte, Nat.reduceEqDiff, Nat.reduceLT, Nat.reduceLeDiff, Nat.reduceAdd, Nat.reduceMul, Nat.reduceSub, reduceCtorEq, Nat.reduceMod, Nat.reduceBEq, Int.reduceBEq, Int.reduceBNe, Int.reduceToNat, hs2, w4, bd2, hnn, encB_drop, encB_take, pbs_encB, hts]
      exact ⟨_, fun _ _ h => h, hK⟩
     ·have d0 : (0 : Int) < (n : Int) := by omega
      simp -implicitDefEqProofs only [go_sem, ↓reduceIte, Nat.reduceEqDiff, Nat.reduceLT, Nat.reduceLeDiff, Nat.reduceAdd, Nat.reduceMul, Nat.reduceSub, reduceCtorEq, Nat.reduceMod, Nat.reduceBEq, Int.reduceBEq, Int.reduceBNe, Int.reduceToNat, e00, d0, d1]
      refine vwp_draw (by decide +kernel) ?_
      simp -implicitDefEqProofs only [go_sem, ↓reduceIte, Nat.reduceEqDiff, Nat.reduceLT, Nat.reduceLeDiff, Nat.reduceAdd, Nat.reduceMul, Nat.reduceSub, reduceCtorEq, Nat.reduceMod, Nat.reduceBEq, Int.reduceBEq, Int.reduceBNe, Int.reduceToNat, hs', w1, w2, d2, e00, w3]
      refine on_ok hs _ (by omega) _ ?_
      simp -implicitDefEqProofs only [go_sem, ↓reduceIte, Nat.reduceEqDiff, Nat.reduceLT, Nat.reduceLeDiff, Nat.reduceAdd, Nat.reduceMul, Nat.reduceSub, reduceCtorEq, Nat.reduceMod, Nat.reduceBEq, Int.reduceBEq, Int.reduceBNe, Int.reduceToNat]
      refine vwp_draw (by decide +kernel) ?_
      simp -implicitDefEqProofs only [go_sem, ↓reduceIte, Nat.reduceEqDiff, Nat.reduceLT, Nat.reduceLeDiff, Nat.reduceAdd, Nat.reduceMul, Nat.reduceSub, reduceCtorEq, Nat.reduceMod, Nat.reduceBEq, Int.reduceBEq, Int.reduceBNe, Int.reduceToNat, hs2, w4, bd2, hnn, encB_drop, encB_take, pbs_encB, hts]
      exact ⟨_, fun _ _ h => h, hK⟩
  ·have hw : textE n (s.b.length - s.p - k) most e = e := by unfold textE; rw [if_neg hz]
   rw [hw, if_neg hz] at hK
   simp -implicitDefEqProofs only [go_sem, ↓reduceIte, Nat.reduceEqDiff, Nat.reduceLT, Nat.reduceLeDiff, Nat.reduceAdd, Nat.reduceMul, Nat.reduceSub, reduceCtorEq, Nat.reduceMod, Nat.reduceBEq, Int.reduceBEq, Int.reduceBNe, Int.reduceToNat, (nz hz).2]
   refine vwp_draw (by decide +kernel) ?_
   simp -implicitDefEqProofs only [go_sem, ↓reduceIte, Nat.reduceEqDiff, Nat.reduceLT, Nat.reduceLeDiff, Nat.reduceAdd, Nat.reduceMul, Nat.reduceSub, reduceCtorEq, Nat.reduceMod, Nat.reduceBEq, Int.reduceBEq, Int.reduceBNe, Int.reduceToNat, (nz hz).2]
   refine on_bad hs _ _ hz _ ?_
   simp -implicitDefEqProofs only [go_sem, ↓reduceIte, Nat.reduceEqDiff, Nat.reduceLT, Nat.reduceLeDiff, Nat.reduceAdd, Nat.reduceMul, Nat.reduceSub, reduceCtorEq, Nat.reduceMod, Nat.reduceBEq, Int.reduceBEq, Int.reduceBNe, Int.reduceToNat]
   exact ⟨_, fun _ _ h => h, hK⟩
 ·rw [if_neg he, set_eta hs] at hK
  simp -implicitDefEqProofs only [go_sem, ↓reduceIte, Nat.reduceEqDiff, Nat.reduceLT, Nat.reduceLeDiff, Nat.reduceAdd, Nat.reduceMul, Nat.reduceSub, reduceCtorEq, Nat.reduceMod, Nat.reduceBEq, Int.reduceBEq, Int.reduceBNe, Int.reduceToNat, Tryz.f78, (nz he).1, hs']
  exact ⟨_, fun _ _ h => h, hK⟩
set_option maxHeartbeats 1000000 in
theorem rNum_calls {S : Store} {id : Nat} {s : Rd} (hs : S id = some (rcells s)) (ok : s.Ok) (K : PV → Store → Prop) (hK : K (.int .i64 (rNum s).1) (S.set id (some (rcells (rNum s).2)))) : PCalls Tryz.prog 77 [.ref id 0] S K := by
 refine pcalls_of (C := C) (fun _ => false) (fun _ => false) Tryz.func77 rfl rfl (by simp [Tryz.f77]) ?_
 have hs' := hs
 unfold rcells at hs'
 unfold rNum at hK
 by_cases he : s.e = 0
 ·rw [if_pos he] at hK
  have hb := rdNum_lt (s.b.drop s.p)
  rw [List.length_drop] at hb
  have ho := ok.1
  have ho2 := ok.2
  have hnum := rnumber_fn (s.b.drop s.p) (drop_ok ok)
  have hbd : (0 : Int) ≤ (s.p : Int) ∧ (s.p : Int) ≤ (s.b.length : Int) := by omega
  simp -implicitDefEqProofs only [go_sem, ↓reduceIte, Nat.reduceEqDiff, Nat.reduceLT, Nat.reduceLeDiff, Nat.reduceAdd, Nat.reduceMul, Nat.reduceSub, reduceCtorEq, Nat.reduceMod, Nat.reduceBEq, Int.reduceBEq, Int.reduceBNe, Int.reduceToNat, Tryz.f77, (zz he).1, hs']
  refine vwp_draw (by decide +kernel) ?_
  have hbe : (s.b.length : Int) ≤ (s.b.length : Int) := Int.le_refl _
  have htk := tail_take s.b s.p
  simp -implicitDefEqProofs only [go_sem, ↓reduceIte, Nat.reduceEqDiff, Nat.reduceLT, Nat.reduceLeDiff, Nat.reduceAdd, Nat.reduceMul, Nat.reduceSub, reduceCtorEq, Nat.reduceMod, Nat.reduceBEq, Int.reduceBEq, Int.reduceBNe, Int.reduceToNat, hs', hbd, hbe, htk]
  refine q_call _ (by simp -implicitDefEqProofs only [go_sem, ↓reduceIte, Nat.reduceEqDiff]; exact hnum _) (by decide) rfl ?_
  generalize rdNum (s.b.drop s.p) = r at hb hK ⊢
  obtain ⟨n, k, e⟩ := r
  dsimp only at hb hK ⊢
  by_cases hz : e = 0
  ·subst hz
   rw [if_pos rfl] at hK
   simp -implicitDefEqProofs only [go_sem, ↓reduceIte, Nat.reduceEqDiff, Nat.reduceLT, Nat.reduceLeDiff, Nat.reduceAdd, Nat.reduceMul, Nat.reduceSub, reduceCtorEq, Nat.reduceMod, Nat.reduceBEq, Int.reduceBEq, Int.reduceBNe, Int.reduceToNat]
   refine on_ok hs _ (by omega) _ ?_
   simp -implicitDefEqProofs only [go_sem, ↓reduceIte, Nat.reduceEqDiff, Nat.reduceLT, Nat.reduceLeDiff, Nat.reduceAdd, Nat.reduceMul, Nat.reduceSub, reduceCtorEq, Nat.reduceMod, Nat.reduceBEq, Int.reduceBEq, Int.reduceBNe, Int.reduceToNat]
   exact ⟨_, fun _ _ h => h, hK⟩
  ·rw [if_neg hz] at hK
   simp -implicitDefEqProofs only [go_sem, ↓reduceIte, Nat.reduceEqDiff, Nat.reduceLT, Nat.reduceLeDiff, Nat.reduceAdd, Nat.reduceMul, Nat.reduceSub, reduceCtorEq, Nat.reduceMod, Nat.reduceBEq, Int.reduceBEq, Int.reduceBNe, Int.reduceToNat]
   refine on_bad hs _ _ hz _ ?_
   simp -implicitDefEqProofs only [go_sem, ↓reduceIte, Nat.reduceEqDiff, Nat.reduceLT, Nat.reduceLeDiff, Nat.reduceAdd, Nat.reduceMul, Nat.reduceSub, reduceCtorEq, Nat.reduceMod, Nat.reduceBEq, Int.reduceBEq, Int.reduceBNe, Int.reduceToNat]
   exact ⟨_, fun _ _ h => h, hK⟩
 ·rw [if_neg he, set_eta hs] at hK
  simp -implicitDefEqProofs only [go_sem, ↓reduceIte, Nat.reduceEqDiff, Nat.reduceLT, Nat.reduceLeDiff, Nat.reduceAdd, Nat.reduceMul, Nat.reduceSub, reduceCtorEq, Nat.reduceMod, Nat.reduceBEq, Int.reduceBEq, Int.reduceBNe, Int.reduceToNat, Tryz.f77, (nz he).1, hs']
  exact ⟨_, fun _ _ h => h, hK⟩
end Go.Proofs.YtdioedabjaaboaaGreat.V
