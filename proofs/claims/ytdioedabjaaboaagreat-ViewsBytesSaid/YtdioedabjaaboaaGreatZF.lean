/- Bytes of views: the reader reads texts. -/
import Derived.Test.YtdioedabjaaboaaGreatZE
set_option linter.unusedVariables false
set_option linter.unusedSimpArgs false
namespace Go.Proofs.YtdioedabjaaboaaGreat.V
open Go Go.VL

theorem rNum_bad {s : Rd} (he : s.e ≠ 0) : rNum s = (0, s) := by unfold rNum; rw [if_neg he]
theorem rNum_err {s : Rd} (he : s.e = 0) (h : (rdNum (s.b.drop s.p)).2.2 ≠ 0) : rNum s = (0, { s with e := (rdNum (s.b.drop s.p)).2.2 }) := by unfold rNum; rw [if_pos he, if_neg h]
theorem rNum_ok {s : Rd} (he : s.e = 0) (h : (rdNum (s.b.drop s.p)).2.2 = 0) : rNum s = ((rdNum (s.b.drop s.p)).1, { s with p := s.p + (rdNum (s.b.drop s.p)).2.1 }) := by unfold rNum; rw [if_pos he, if_pos h]

set_option maxHeartbeats 1000000 in
set_option maxHeartbeats 1000000 in
set_option maxHeartbeats 1000000 in
theorem wText_calls {S : Store} {id : Nat} {s : Rd} (hs : S id = some (wcells s)) (ok : s.Ok) (most : Nat) (K : PV → Store → Prop) (hK : K (.str (rText most s).1) (S.set id (some (wcells (rText most s).2)))) : PCalls Tryz.prog 75 [.ref id 0, .int .i64 most] S K := by
 refine pcalls_of (C := C) (fun _ => false) (fun _ => false) Tryz.func75 rfl rfl (by simp [Tryz.f75]) ?_
 have hs' := hs
 unfold wcells at hs'
 unfold rText at hK
 have ho := ok.1
 have ho2 := ok.2
 simp -implicitDefEqProofs only [go_sem, ↓reduceIte, Nat.reduceEqDiff, Nat.reduceLT, Nat.reduceLeDiff, Nat.reduceAdd, Nat.reduceMul, Nat.reduceSub, reduceCtorEq, Nat.reduceMod, Nat.reduceBEq, Int.reduceBEq, Int.reduceBNe, Int.reduceToNat, Tryz.f75]
 refine wdead_spec hs _ ?_
 simp -implicitDefEqProofs only [go_sem, ↓reduceIte, Nat.reduceEqDiff, Nat.reduceLT, Nat.reduceLeDiff, Nat.reduceAdd, Nat.reduceMul, Nat.reduceSub, reduceCtorEq, Nat.reduceMod, Nat.reduceBEq, Int.reduceBEq, Int.reduceBNe, Int.reduceToNat, hs']
 refine wNum_calls hs ok _ ?_
 have hmax : (if (0 : Int) < (most : Int) then (most : Int) else 0) = (most : Int) := by split <;> omega
 have hmax2 : (if (most : Int) < (0 : Int) then (0 : Int) else (most : Int)) = (most : Int) := by split <;> omega
 by_cases he : s.e = 0
 ·rw [if_pos he] at hK
  have hn := @rNum_ok s he
  have hb := @rNum_err s he
  have hbd := rdNum_lt (s.b.drop s.p)
  rw [List.length_drop] at hbd
  generalize rdNum (s.b.drop s.p) = r at hK hn hb hbd
  obtain ⟨n, k, e⟩ := r
  dsimp only at hK hn hb hbd
  by_cases hz : e = 0
  ·subst hz
   rw [hn rfl]
   have e4z : ((4 : Int) != 0) = true := rfl
   have e2z : ((2 : Int) != 0) = true := rfl
   have zz1 := zz he
   have ok1 : Rd.Ok { s with p := s.p + k } := ⟨by dsimp only; omega, ho2⟩
   by_cases h1 : most < n
   ·have hw : textE n (s.b.length - s.p - k) most 0 = 4 := by unfold textE; rw [if_pos rfl, if_pos h1]
    rw [hw, if_neg (by decide)] at hK
    have d1 : (most : Int) < (n : Int) := by omega
    unfold wcells at hK
    simp -implicitDefEqProofs only [go_sem, ↓reduceIte, Nat.reduceEqDiff, Nat.reduceLT, Nat.reduceLeDiff, Nat.reduceAdd, Nat.reduceMul, Nat.reduceSub, reduceCtorEq, Nat.reduceMod, Nat.reduceBEq, Int.reduceBEq, Int.reduceBNe, Int.reduceToNat, wcells, zz1.2, hmax, hmax2, d1]
    refine fail_calls (s := { s with p := s.p + k }) (set_at _ _ _) _ _ ?_
    dsimp only
    rw [if_pos he, set_set]
    simp -implicitDefEqProofs only [go_sem, ↓reduceIte, Nat.reduceEqDiff, Nat.reduceLT, Nat.reduceLeDiff, Nat.reduceAdd, Nat.reduceMul, Nat.reduceSub, reduceCtorEq, Nat.reduceMod, Nat.reduceBEq, Int.reduceBEq, Int.reduceBNe, Int.reduceToNat]
    refine bytes_calls (s := { s with p := s.p + k, e := 4 }) (set_at _ _ _) ok1 _ _ ?_
    intro fl
    have hwb : wBytes { s with p := s.p + k, e := 4 } n = ([], { s with p := s.p + k, e := 4 }) := by unfold wBytes; rw [if_neg (show ¬ (4 : Int) = 0 by decide)]
    rw [hwb, set_set]
    simp -implicitDefEqProofs only [go_sem, ↓reduceIte, Nat.reduceEqDiff, Nat.reduceLT, Nat.reduceLeDiff, Nat.reduceAdd, Nat.reduceMul, Nat.reduceSub, reduceCtorEq, Nat.reduceMod, Nat.reduceBEq, Int.reduceBEq, Int.reduceBNe, Int.reduceToNat, wcells, e4z, encB_nil, pbs, bsOf, psplice]
    exact ⟨_, fun _ _ h => h, hK⟩
   ·have d1 : ¬ (most : Int) < (n : Int) := by omega
    simp -implicitDefEqProofs only [go_sem, ↓reduceIte, Nat.reduceEqDiff, Nat.reduceLT, Nat.reduceLeDiff, Nat.reduceAdd, Nat.reduceMul, Nat.reduceSub, reduceCtorEq, Nat.reduceMod, Nat.reduceBEq, Int.reduceBEq, Int.reduceBNe, Int.reduceToNat, wcells, zz1.2, hmax, hmax2, d1]
    refine bytes_calls (s := { s with p := s.p + k }) (set_at _ _ _) ok1 _ _ ?_
    intro fl
    by_cases h2 : s.b.length - s.p - k < n
    ·have hw : textE n (s.b.length - s.p - k) most 0 = 2 := by unfold textE; rw [if_pos rfl, if_neg h1, if_pos h2]
     rw [hw, if_neg (by decide)] at hK
     have hwb : wBytes { s with p := s.p + k } n = ([], { s with p := s.p + k, e := 2 }) := by unfold wBytes; rw [if_pos he, if_pos (by dsimp only; omega)]
     rw [hwb, set_set]
     unfold wcells at hK
     simp -implicitDefEqProofs only [go_sem, ↓reduceIte, Nat.reduceEqDiff, Nat.reduceLT, Nat.reduceLeDiff, Nat.reduceAdd, Nat.reduceMul, Nat.reduceSub, reduceCtorEq, Nat.reduceMod, Nat.reduceBEq, Int.reduceBEq, Int.reduceBNe, Int.reduceToNat, wcells, e2z, encB_nil, pbs, bsOf, psplice]
     exact ⟨_, fun _ _ h => h, hK⟩
    ·have hw : textE n (s.b.length - s.p - k) most 0 = 0 := by unfold textE; rw [if_pos rfl, if_neg h1, if_neg h2]
     rw [hw, if_pos rfl] at hK
     have hwb : wBytes { s with p := s.p + k } n = ((s.b.drop (s.p + k)).take n, { s with p := s.p + k + n }) := by unfold wBytes; rw [if_pos he, if_neg (by dsimp only; omega)]
     have hts := bsOf_str ((s.b.drop (s.p + k)).take n)
     rw [hwb, set_set]
     unfold wcells at hK
     simp -implicitDefEqProofs only [go_sem, ↓reduceIte, Nat.reduceEqDiff, Nat.reduceLT, Nat.reduceLeDiff, Nat.reduceAdd, Nat.reduceMul, Nat.reduceSub, reduceCtorEq, Nat.reduceMod, Nat.reduceBEq, Int.reduceBEq, Int.reduceBNe, Int.reduceToNat, wcells, zz1.1, pbs_encB, hts]
     exact ⟨_, fun _ _ h => h, hK⟩
  ·have hw : textE n (s.b.length - s.p - k) most e = e := by unfold textE; rw [if_neg hz]
   rw [hw, if_neg hz] at hK
   rw [hb hz]
   unfold wcells at hK
   simp -implicitDefEqProofs only [go_sem, ↓reduceIte, Nat.reduceEqDiff, Nat.reduceLT, Nat.reduceLeDiff, Nat.reduceAdd, Nat.reduceMul, Nat.reduceSub, reduceCtorEq, Nat.reduceMod, Nat.reduceBEq, Int.reduceBEq, Int.reduceBNe, Int.reduceToNat, wcells, (nz hz).2]
   refine bytes_calls (s := { s with e := e }) (set_at _ _ _) ok _ _ ?_
   intro fl
   have hwb : wBytes { s with e := e } 0 = ([], { s with e := e }) := by unfold wBytes; rw [if_neg hz]
   rw [hwb, set_set]
   simp -implicitDefEqProofs only [go_sem, ↓reduceIte, Nat.reduceEqDiff, Nat.reduceLT, Nat.reduceLeDiff, Nat.reduceAdd, Nat.reduceMul, Nat.reduceSub, reduceCtorEq, Nat.reduceMod, Nat.reduceBEq, Int.reduceBEq, Int.reduceBNe, Int.reduceToNat, wcells, (nz hz).1, encB_nil, pbs, bsOf, psplice]
   exact ⟨_, fun _ _ h => h, hK⟩
 ·rw [if_neg he] at hK
  unfold wcells at hK
  rw [rNum_bad he]
  dsimp only
  rw [set_eta hs]
  simp -implicitDefEqProofs only [go_sem, ↓reduceIte, Nat.reduceEqDiff, Nat.reduceLT, Nat.reduceLeDiff, Nat.reduceAdd, Nat.reduceMul, Nat.reduceSub, reduceCtorEq, Nat.reduceMod, Nat.reduceBEq, Int.reduceBEq, Int.reduceBNe, Int.reduceToNat, hs', (nz he).2]
  refine bytes_calls hs ok 0 _ ?_
  intro fl
  have hwb : wBytes s 0 = ([], s) := by unfold wBytes; rw [if_neg he]
  rw [hwb, set_eta hs]
  simp -implicitDefEqProofs only [go_sem, ↓reduceIte, Nat.reduceEqDiff, Nat.reduceLT, Nat.reduceLeDiff, Nat.reduceAdd, Nat.reduceMul, Nat.reduceSub, reduceCtorEq, Nat.reduceMod, Nat.reduceBEq, Int.reduceBEq, Int.reduceBNe, Int.reduceToNat, hs', (nz he).1, encB_nil, pbs, bsOf, psplice]
  exact ⟨_, fun _ _ h => h, hK⟩
end Go.Proofs.YtdioedabjaaboaaGreat.V
