/- Maps: set; what is refused changes nothing. -/
import Derived.Test.YtmplfmhcpkmpbaaKM
set_option linter.unusedVariables false
set_option linter.unusedSimpArgs false
namespace Go.Proofs.Ytmplfmhcpkmpbaa.V
open Go Go.VL

def putAll (L : List Pr) (l : List KO) : List Pr := l.foldl (fun L o => putL o.k o.v L) L
theorem putAll_take {L : List Pr} {l : List KO} {k : Nat} {o : KO} (h : l[k]? = some o) : putAll L (l.take (k + 1)) = putL o.k o.v (putAll L (l.take k)) := by
  rw [List.take_add_one, h]
  simp [putAll]
theorem putAll_ok : ∀ (l : List KO) (L : List Pr), Sorted L → Sorted (putAll L l) ∧ (putAll L l).length ≤ L.length + l.length
  | [], L, h => ⟨h, Nat.le_refl _⟩
  | o :: l, L, h => by
    obtain ⟨h1, h2⟩ := putAll_ok l _ (sorted_put h o.k o.v)
    have := put_len h o.k o.v
    refine ⟨h1, ?_⟩
    show (putAll (putL o.k o.v L) l).length ≤ _
    simp only [List.length_cons]
    omega
def setE (l : List KO) : Int := if 24 < l.length then 7 else if rightF [] l = 0 then (if l.all (·.has) then 0 else 61) else rightF [] l
def setF (L : List Pr) (l : List KO) : List Pr := if setE l = 0 then putAll [] l else L

set_option maxHeartbeats 2000000 in
theorem KSet_calls {S : Store} {id : Nat} {t : T} (h : Km S id t) (l : List KO) (K : PV → Store → Prop)
    (hK : ∀ q, Km (S.set id (some [.ip [enc q] 0])) id q → q.list = setF t.list l → K (.int .i64 (setE l)) (S.set id (some [.ip [enc q] 0]))) :
    PCalls Try.prog 30 [.ref id 0, .sl .no 3 (encOs l)] S K := by
  have keep : setE l ≠ 0 → K (.int .i64 (setE l)) S := fun hn => by
    have := hK t (Km.mk S id h.2.1 h.2.2) (by unfold setF; rw [if_neg hn])
    rwa [set_eta h.at] at this
  have done : setE l = 0 → ∀ q, Ok q → q.list = putAll [] l → K (.int .i64 0) (S.set id (some [.ip [enc q] 0])) := fun h0 q oq hq => by
    have := hK q (Km.mk S id oq (by rw [hq]; exact (putAll_ok l [] List.Pairwise.nil).1)) (by unfold setF; rw [if_pos h0, hq])
    rwa [h0] at this
  clear hK
  refine pcalls_of (C := C) (fun _ => false) (fun _ => false) Try.func30 rfl rfl (by simp [Try.f30]) ?_
  simp -implicitDefEqProofs only [go_sem, ↓reduceIte, Nat.reduceEqDiff, Nat.reduceLT, Nat.reduceLeDiff, Nat.reduceAdd, Nat.reduceMul, Nat.reduceSub, reduceCtorEq, Nat.reduceMod, Nat.reduceBEq, Int.reduceBEq, Int.reduceBNe, Int.reduceToNat, Try.f30]
  refine made_spec h _ ?_
  unfold setE at keep done
  by_cases h1 : 24 < l.length
  · have d1 : (24 : Int) < l.length := by omega
    rw [if_pos h1] at keep
    simp -implicitDefEqProofs only [go_sem, ↓reduceIte, Nat.reduceEqDiff, Nat.reduceLT, Nat.reduceLeDiff, Nat.reduceAdd, Nat.reduceMul, Nat.reduceSub, reduceCtorEq, Nat.reduceMod, Nat.reduceBEq, Int.reduceBEq, Int.reduceBNe, Int.reduceToNat, d1]
    exact ⟨S, fun _ _ h => h, keep (by decide)⟩
  · have d1 : ¬ (24 : Int) < l.length := by omega
    rw [if_neg h1] at keep done
    simp -implicitDefEqProofs only [go_sem, ↓reduceIte, Nat.reduceEqDiff, Nat.reduceLT, Nat.reduceLeDiff, Nat.reduceAdd, Nat.reduceMul, Nat.reduceSub, reduceCtorEq, Nat.reduceMod, Nat.reduceBEq, Int.reduceBEq, Int.reduceBNe, Int.reduceToNat, d1]
    refine rightO_spec l (by omega) _ _ ?_
    by_cases h2 : rightF [] l = 0
    · rw [if_pos h2] at keep done
      rw [h2]
      simp -implicitDefEqProofs only [go_sem, ↓reduceIte, Nat.reduceEqDiff, Nat.reduceLT, Nat.reduceLeDiff, Nat.reduceAdd, Nat.reduceMul, Nat.reduceSub, reduceCtorEq, Nat.reduceMod, Nat.reduceBEq, Int.reduceBEq, Int.reduceBNe, Int.reduceToNat, i00]
      refine New_spec _ _ ?_
      simp -implicitDefEqProofs only [go_sem, ↓reduceIte, Nat.reduceEqDiff, Nat.reduceLT, Nat.reduceLeDiff, Nat.reduceAdd, Nat.reduceMul, Nat.reduceSub, reduceCtorEq, Nat.reduceMod, Nat.reduceBEq, Int.reduceBEq, Int.reduceBNe, Int.reduceToNat]
      refine vloop (fun e S' => S' = S ∧ ∃ (k : Nat) (u : T), k ≤ l.length ∧ l.all (·.has) = (l.drop k).all (·.has) ∧ Ok u ∧ u.list = putAll [] (l.take k) ∧ e 0 = .ref id 0 ∧ e 6 = .ip [enc u] 0 ∧ e 21 = .sl .no 3 (encOs l) ∧ e 22 = .int .i64 l.length ∧ e 23 = .int .i64 k) (fun e _ => l.length - iv (e 23)) ?_ ?_
      · exact ⟨rfl, 0, .nil, Nat.zero_le _, rfl, trivial, rfl, rfl, rfl, rfl, rfl, rfl⟩
      · rintro J M Q' hJ hM hQ e S' ⟨rfl, k, u, hk, hr, ou, hu, e0, e6, e21, e22, e23⟩
        obtain ⟨s1, s2⟩ := putAll_ok (l.take k) [] List.Pairwise.nil
        rw [← hu] at s1 s2
        rw [List.length_take] at s2
        simp only [List.length_nil] at s2
        by_cases hlt : k < l.length
        · obtain ⟨o, ho⟩ : ∃ o, l[k]? = some o := ⟨_, List.getElem?_eq_getElem hlt⟩
          have hin : (0 : Int) ≤ k ∧ (k : Int) < l.length := by omega
          have hk1 : IntKind.i64.wrap ((k : Int) + 1) = ((k + 1 : Nat) : Int) := wrap64 (by omega) (by omega)
          rw [drop_cons ho, List.all_cons] at hr
          cases c : o.has
          · rw [c, Bool.false_and] at hr
            rw [hr] at keep
            simp -implicitDefEqProofs only [go_sem, ↓reduceIte, Nat.reduceEqDiff, Nat.reduceLT, Nat.reduceLeDiff, Nat.reduceAdd, Nat.reduceMul, Nat.reduceSub, reduceCtorEq, Nat.reduceMod, Nat.reduceBEq, Int.reduceBEq, Int.reduceBNe, Int.reduceToNat, hin, hlt, e21, e22, e23, getD_encOs ho, c]
            refine hQ _ _ _ ?_
            simp -implicitDefEqProofs only [go_sem, ↓reduceIte, Nat.reduceEqDiff, Nat.reduceLT, Nat.reduceLeDiff, Nat.reduceAdd, Nat.reduceMul, Nat.reduceSub, reduceCtorEq, Nat.reduceMod, Nat.reduceBEq, Int.reduceBEq, Int.reduceBNe, Int.reduceToNat]
            exact ⟨S', fun _ _ h => h, keep (by decide)⟩
          · rw [c, Bool.true_and] at hr
            obtain ⟨q, q1, q2, q3⟩ := Put_spec (Tr.mk u) ou s1 (by omega) o.k o.v
            simp -implicitDefEqProofs only [go_sem, ↓reduceIte, Nat.reduceEqDiff, Nat.reduceLT, Nat.reduceLeDiff, Nat.reduceAdd, Nat.reduceMul, Nat.reduceSub, reduceCtorEq, Nat.reduceMod, Nat.reduceBEq, Int.reduceBEq, Int.reduceBNe, Int.reduceToNat, hin, hlt, e6, e21, e22, e23, getD_encOs ho, c]
            refine q3 _ _ ?_
            simp -implicitDefEqProofs only [go_sem, ↓reduceIte, Nat.reduceEqDiff, Nat.reduceLT, Nat.reduceLeDiff, Nat.reduceAdd, Nat.reduceMul, Nat.reduceSub, reduceCtorEq, Nat.reduceMod, Nat.reduceBEq, Int.reduceBEq, Int.reduceBNe, Int.reduceToNat, e23, hk1]
            refine vnext hJ hM S' (fun _ _ h => h) ⟨rfl, k + 1, q, hlt, hr, q1, by rw [q2, hu, putAll_take ho], ?_, ?_, ?_, ?_, ?_⟩ ?_
            · simp -implicitDefEqProofs only [go_sem, ↓reduceIte, Nat.reduceEqDiff, Nat.reduceLT, Nat.reduceLeDiff, Nat.reduceAdd, Nat.reduceMul, Nat.reduceSub, reduceCtorEq, Nat.reduceMod, Nat.reduceBEq, Int.reduceBEq, Int.reduceBNe, Int.reduceToNat, e0]
            · simp -implicitDefEqProofs only [go_sem, ↓reduceIte, Nat.reduceEqDiff, Nat.reduceLT, Nat.reduceLeDiff, Nat.reduceAdd, Nat.reduceMul, Nat.reduceSub, reduceCtorEq, Nat.reduceMod, Nat.reduceBEq, Int.reduceBEq, Int.reduceBNe, Int.reduceToNat]
            · simp -implicitDefEqProofs only [go_sem, ↓reduceIte, Nat.reduceEqDiff, Nat.reduceLT, Nat.reduceLeDiff, Nat.reduceAdd, Nat.reduceMul, Nat.reduceSub, reduceCtorEq, Nat.reduceMod, Nat.reduceBEq, Int.reduceBEq, Int.reduceBNe, Int.reduceToNat, e21]
            · simp -implicitDefEqProofs only [go_sem, ↓reduceIte, Nat.reduceEqDiff, Nat.reduceLT, Nat.reduceLeDiff, Nat.reduceAdd, Nat.reduceMul, Nat.reduceSub, reduceCtorEq, Nat.reduceMod, Nat.reduceBEq, Int.reduceBEq, Int.reduceBNe, Int.reduceToNat, e22]
            · simp -implicitDefEqProofs only [go_sem, ↓reduceIte, Nat.reduceEqDiff, Nat.reduceLT, Nat.reduceLeDiff, Nat.reduceAdd, Nat.reduceMul, Nat.reduceSub, reduceCtorEq, Nat.reduceMod, Nat.reduceBEq, Int.reduceBEq, Int.reduceBNe, Int.reduceToNat]
            · simp -implicitDefEqProofs only [go_sem, ↓reduceIte, Nat.reduceEqDiff, Nat.reduceLT, Nat.reduceLeDiff, Nat.reduceAdd, Nat.reduceMul, Nat.reduceSub, reduceCtorEq, Nat.reduceMod, Nat.reduceBEq, Int.reduceBEq, Int.reduceBNe, Int.reduceToNat, e23]
              omega
        · have hcc : ¬ (k : Int) < l.length := by omega
          rw [List.drop_of_length_le (by omega)] at hr
          simp only [List.all_nil] at hr
          rw [hr] at done
          rw [List.take_of_length_le (by omega)] at hu
          simp -implicitDefEqProofs only [go_sem, ↓reduceIte, Nat.reduceEqDiff, Nat.reduceLT, Nat.reduceLeDiff, Nat.reduceAdd, Nat.reduceMul, Nat.reduceSub, reduceCtorEq, Nat.reduceMod, Nat.reduceBEq, Int.reduceBEq, Int.reduceBNe, Int.reduceToNat, hcc, e22, e23]
          refine hQ _ _ _ ?_
          simp -implicitDefEqProofs only [go_sem, ↓reduceIte, Nat.reduceEqDiff, Nat.reduceLT, Nat.reduceLeDiff, Nat.reduceAdd, Nat.reduceMul, Nat.reduceSub, reduceCtorEq, Nat.reduceMod, Nat.reduceBEq, Int.reduceBEq, Int.reduceBNe, Int.reduceToNat, e0, e6, h.at, psplice]
          exact ⟨_, fun _ _ h => h, done (by decide) u ou hu⟩
    · rw [if_neg h2] at keep done
      have d2 : (rightF [] l != 0) = true := by simp [h2]
      simp -implicitDefEqProofs only [go_sem, ↓reduceIte, Nat.reduceEqDiff, Nat.reduceLT, Nat.reduceLeDiff, Nat.reduceAdd, Nat.reduceMul, Nat.reduceSub, reduceCtorEq, Nat.reduceMod, Nat.reduceBEq, Int.reduceBEq, Int.reduceBNe, Int.reduceToNat, d2]
      exact ⟨S, fun _ _ h => h, keep h2⟩

theorem refused_E {L : List Pr} {pos : Int} {conds ops : List KO} (h : (planF L pos conds ops).2 ≠ 0) : (planF L pos conds ops).1 = [] ∧ doF L pos conds ops = L := by
  refine ⟨?_, by unfold doF; rw [if_neg h]⟩
  unfold planF at h ⊢
  split
  · rename_i hc
    rw [if_pos hc] at h
    split
    · rename_i ha
      rw [if_pos ha] at h
      split
      · rfl
      · rename_i hp
        rw [if_neg hp] at h
        exact absurd rfl h
    · rfl
  · rfl
def scanA (L : List Pr) : List KO := (rangeL ⟨#[]⟩ ⟨#[]⟩ L).map kOf
theorem scanA_len (L : List Pr) : (scanA L).length ≤ L.length := by
  unfold scanA
  rw [List.length_map]
  exact rangeL_len _ _ L
theorem KAll_spec {S : Store} {id : Nat} {t : T} (h : Km S id t) (hn : t.list.length ≤ 1000000) : PRet Try.prog 23 [.ref id 0, .str ⟨#[]⟩, .str ⟨#[]⟩] S (.sl .tail 3 (encOs (scanA t.list))) := KScan_spec h hn _ _
theorem encDs_cons (k : KD) (l : List KD) : [[.int .i64 k.op, .int .i64 k.pos, .sl .no 3 (encOs k.conds), .sl .no 3 (encOs k.ops), .str k.frm, .str k.to, .int .i64 k.ev.pos, .str k.ev.k, .bool k.ev.had, .str k.ev.old, .bool k.ev.has, .str k.ev.now]] ++ encDs l = encDs (k :: l) := rfl
theorem small168 {k : Nat} (h : k ≤ 837723144972) : k * 168 ≤ 140737488355328 ∧ k ≤ 140737488355328 := by omega
set_option maxHeartbeats 2000000 in
theorem refused_law (l : List KD) (k : KD) (hll : l.length ≤ 837723144971) (S : Store) : PRet Try.prog 8 [.sl .no 12 (encDs l), .agg (encD k)] S (.bool true) := by
  intro K hK
  refine pcalls_of (C := C) (fun _ => false) (fun _ => false) Try.func8 rfl rfl (by simp [Try.f8]) ?_
  have hap := small168 (k := 1 + l.length) (by omega)
  unfold encD
  simp -implicitDefEqProofs only [go_sem, ↓reduceIte, Nat.reduceEqDiff, Nat.reduceLT, Nat.reduceLeDiff, Nat.reduceAdd, Nat.reduceMul, Nat.reduceSub, reduceCtorEq, Nat.reduceMod, Nat.reduceBEq, Int.reduceBEq, Int.reduceBNe, Int.reduceToNat, Try.f8, hap, encDs_cons]
  refine short_spec (k :: l) _ _ ?_
  cases hs : shortQ (k :: l)
  · simp -implicitDefEqProofs only [go_sem, ↓reduceIte, Nat.reduceEqDiff, Nat.reduceLT, Nat.reduceLeDiff, Nat.reduceAdd, Nat.reduceMul, Nat.reduceSub, reduceCtorEq, Nat.reduceMod, Nat.reduceBEq, Int.reduceBEq, Int.reduceBNe, Int.reduceToNat]
    refine awake_spec _ _ ?_
    simp -implicitDefEqProofs only [go_sem, ↓reduceIte, Nat.reduceEqDiff, Nat.reduceLT, Nat.reduceLeDiff, Nat.reduceAdd, Nat.reduceMul, Nat.reduceSub, reduceCtorEq, Nat.reduceMod, Nat.reduceBEq, Int.reduceBEq, Int.reduceBNe, Int.reduceToNat]
    exact ⟨S, fun _ _ h => h, hK⟩
  · obtain ⟨hl, _⟩ := short_fit hs
    simp only [List.length_cons] at hl
    simp -implicitDefEqProofs only [go_sem, ↓reduceIte, Nat.reduceEqDiff, Nat.reduceLT, Nat.reduceLeDiff, Nat.reduceAdd, Nat.reduceMul, Nat.reduceSub, reduceCtorEq, Nat.reduceMod, Nat.reduceBEq, Int.reduceBEq, Int.reduceBNe, Int.reduceToNat]
    refine made_calls l (by omega) _ _ fun id t hid km ht => ?_
    obtain ⟨m1, m2, m3, m4, m5⟩ := made_good l
    generalize (madeF l).2 = E at m3 m4 m5 ⊢
    generalize (madeF l).1 = L at m1 m2 m5 ht
    simp -implicitDefEqProofs only [go_sem, ↓reduceIte, Nat.reduceEqDiff, Nat.reduceLT, Nat.reduceLeDiff, Nat.reduceAdd, Nat.reduceMul, Nat.reduceSub, reduceCtorEq, Nat.reduceMod, Nat.reduceBEq, Int.reduceBEq, Int.reduceBNe, Int.reduceToNat]
    refine KAll_spec km (by rw [ht]; omega) _ ?_
    simp -implicitDefEqProofs only [go_sem, ↓reduceIte, Nat.reduceEqDiff, Nat.reduceLT, Nat.reduceLeDiff, Nat.reduceAdd, Nat.reduceMul, Nat.reduceSub, reduceCtorEq, Nat.reduceMod, Nat.reduceBEq, Int.reduceBEq, Int.reduceBNe, Int.reduceToNat]
    refine KDo_calls km (by rw [ht]; omega) k.pos k.conds k.ops _ fun q kq lq => ?_
    rw [set_set] at kq ⊢
    rw [ht] at lq ⊢
    have hq6 := (doF_ok m1 k.pos k.conds k.ops).2
    rw [← lq] at hq6
    have rest : PCalls Try.prog 0 [] S K → True := fun _ => trivial
    unfold encPl
    have sL := scanA_len L
    have sq := scanA_len q.list
    by_cases he : (planF L k.pos k.conds k.ops).2 = 0
    · rw [he]
      simp -implicitDefEqProofs only [go_sem, ↓reduceIte, Nat.reduceEqDiff, Nat.reduceLT, Nat.reduceLeDiff, Nat.reduceAdd, Nat.reduceMul, Nat.reduceSub, reduceCtorEq, Nat.reduceMod, Nat.reduceBEq, Int.reduceBEq, Int.reduceBNe, Int.reduceToNat, i00]
      refine KAll_spec kq (by omega) _ ?_
      simp -implicitDefEqProofs only [go_sem, ↓reduceIte, Nat.reduceEqDiff, Nat.reduceLT, Nat.reduceLeDiff, Nat.reduceAdd, Nat.reduceMul, Nat.reduceSub, reduceCtorEq, Nat.reduceMod, Nat.reduceBEq, Int.reduceBEq, Int.reduceBNe, Int.reduceToNat]
      refine KSet_calls kq k.ops _ fun u ku lu => ?_
      rw [set_set] at ku ⊢
      by_cases hz : setE k.ops = 0
      · have d : (setE k.ops == 0) = true := by simp [hz]
        simp -implicitDefEqProofs only [go_sem, ↓reduceIte, Nat.reduceEqDiff, Nat.reduceLT, Nat.reduceLeDiff, Nat.reduceAdd, Nat.reduceMul, Nat.reduceSub, reduceCtorEq, Nat.reduceMod, Nat.reduceBEq, Int.reduceBEq, Int.reduceBNe, Int.reduceToNat, d]
        refine awake_spec _ _ ?_
        simp -implicitDefEqProofs only [go_sem, ↓reduceIte, Nat.reduceEqDiff, Nat.reduceLT, Nat.reduceLeDiff, Nat.reduceAdd, Nat.reduceMul, Nat.reduceSub, reduceCtorEq, Nat.reduceMod, Nat.reduceBEq, Int.reduceBEq, Int.reduceBNe, Int.reduceToNat]
        exact ⟨S, set_drop hid fun _ _ h => h, hK⟩
      · have d : (setE k.ops == 0) = false := by simp [hz]
        unfold setF at lu
        rw [if_neg hz] at lu
        simp -implicitDefEqProofs only [go_sem, ↓reduceIte, Nat.reduceEqDiff, Nat.reduceLT, Nat.reduceLeDiff, Nat.reduceAdd, Nat.reduceMul, Nat.reduceSub, reduceCtorEq, Nat.reduceMod, Nat.reduceBEq, Int.reduceBEq, Int.reduceBNe, Int.reduceToNat, d]
        refine KAll_spec ku (by rw [lu]; omega) _ ?_
        rw [lu]
        simp -implicitDefEqProofs only [go_sem, ↓reduceIte, Nat.reduceEqDiff, Nat.reduceLT, Nat.reduceLeDiff, Nat.reduceAdd, Nat.reduceMul, Nat.reduceSub, reduceCtorEq, Nat.reduceMod, Nat.reduceBEq, Int.reduceBEq, Int.reduceBNe, Int.reduceToNat]
        refine EqualO_refl _ (by omega) _ _ ?_
        simp -implicitDefEqProofs only [go_sem, ↓reduceIte, Nat.reduceEqDiff, Nat.reduceLT, Nat.reduceLeDiff, Nat.reduceAdd, Nat.reduceMul, Nat.reduceSub, reduceCtorEq, Nat.reduceMod, Nat.reduceBEq, Int.reduceBEq, Int.reduceBNe, Int.reduceToNat]
        refine awake_spec _ _ ?_
        simp -implicitDefEqProofs only [go_sem, ↓reduceIte, Nat.reduceEqDiff, Nat.reduceLT, Nat.reduceLeDiff, Nat.reduceAdd, Nat.reduceMul, Nat.reduceSub, reduceCtorEq, Nat.reduceMod, Nat.reduceBEq, Int.reduceBEq, Int.reduceBNe, Int.reduceToNat]
        exact ⟨S, set_drop hid fun _ _ h => h, hK⟩
    · obtain ⟨r1, r2⟩ := refused_E he
      have d0 : ((planF L k.pos k.conds k.ops).2 != 0) = true := by simp [he]
      rw [r2] at lq
      rw [r1]
      have z0 : ¬ (0 : Int) < 0 := by decide
      simp -implicitDefEqProofs only [go_sem, ↓reduceIte, Nat.reduceEqDiff, Nat.reduceLT, Nat.reduceLeDiff, Nat.reduceAdd, Nat.reduceMul, Nat.reduceSub, reduceCtorEq, Nat.reduceMod, Nat.reduceBEq, Int.reduceBEq, Int.reduceBNe, Int.reduceToNat, d0, encVs, List.map_nil, List.length_nil, z0]
      refine KAll_spec kq (by omega) _ ?_
      rw [lq]
      simp -implicitDefEqProofs only [go_sem, ↓reduceIte, Nat.reduceEqDiff, Nat.reduceLT, Nat.reduceLeDiff, Nat.reduceAdd, Nat.reduceMul, Nat.reduceSub, reduceCtorEq, Nat.reduceMod, Nat.reduceBEq, Int.reduceBEq, Int.reduceBNe, Int.reduceToNat]
      refine EqualO_refl _ (by omega) _ _ ?_
      simp -implicitDefEqProofs only [go_sem, ↓reduceIte, Nat.reduceEqDiff, Nat.reduceLT, Nat.reduceLeDiff, Nat.reduceAdd, Nat.reduceMul, Nat.reduceSub, reduceCtorEq, Nat.reduceMod, Nat.reduceBEq, Int.reduceBEq, Int.reduceBNe, Int.reduceToNat]
      refine KAll_spec kq (by omega) _ ?_
      simp -implicitDefEqProofs only [go_sem, ↓reduceIte, Nat.reduceEqDiff, Nat.reduceLT, Nat.reduceLeDiff, Nat.reduceAdd, Nat.reduceMul, Nat.reduceSub, reduceCtorEq, Nat.reduceMod, Nat.reduceBEq, Int.reduceBEq, Int.reduceBNe, Int.reduceToNat]
      refine KSet_calls kq k.ops _ fun u ku lu => ?_
      rw [set_set] at ku ⊢
      by_cases hz : setE k.ops = 0
      · have d : (setE k.ops == 0) = true := by simp [hz]
        simp -implicitDefEqProofs only [go_sem, ↓reduceIte, Nat.reduceEqDiff, Nat.reduceLT, Nat.reduceLeDiff, Nat.reduceAdd, Nat.reduceMul, Nat.reduceSub, reduceCtorEq, Nat.reduceMod, Nat.reduceBEq, Int.reduceBEq, Int.reduceBNe, Int.reduceToNat, d]
        refine awake_spec _ _ ?_
        simp -implicitDefEqProofs only [go_sem, ↓reduceIte, Nat.reduceEqDiff, Nat.reduceLT, Nat.reduceLeDiff, Nat.reduceAdd, Nat.reduceMul, Nat.reduceSub, reduceCtorEq, Nat.reduceMod, Nat.reduceBEq, Int.reduceBEq, Int.reduceBNe, Int.reduceToNat]
        exact ⟨S, set_drop hid fun _ _ h => h, hK⟩
      · have d : (setE k.ops == 0) = false := by simp [hz]
        unfold setF at lu
        rw [if_neg hz] at lu
        simp -implicitDefEqProofs only [go_sem, ↓reduceIte, Nat.reduceEqDiff, Nat.reduceLT, Nat.reduceLeDiff, Nat.reduceAdd, Nat.reduceMul, Nat.reduceSub, reduceCtorEq, Nat.reduceMod, Nat.reduceBEq, Int.reduceBEq, Int.reduceBNe, Int.reduceToNat, d]
        refine KAll_spec ku (by rw [lu]; omega) _ ?_
        rw [lu]
        simp -implicitDefEqProofs only [go_sem, ↓reduceIte, Nat.reduceEqDiff, Nat.reduceLT, Nat.reduceLeDiff, Nat.reduceAdd, Nat.reduceMul, Nat.reduceSub, reduceCtorEq, Nat.reduceMod, Nat.reduceBEq, Int.reduceBEq, Int.reduceBNe, Int.reduceToNat]
        refine EqualO_refl _ (by omega) _ _ ?_
        simp -implicitDefEqProofs only [go_sem, ↓reduceIte, Nat.reduceEqDiff, Nat.reduceLT, Nat.reduceLeDiff, Nat.reduceAdd, Nat.reduceMul, Nat.reduceSub, reduceCtorEq, Nat.reduceMod, Nat.reduceBEq, Int.reduceBEq, Int.reduceBNe, Int.reduceToNat]
        refine awake_spec _ _ ?_
        simp -implicitDefEqProofs only [go_sem, ↓reduceIte, Nat.reduceEqDiff, Nat.reduceLT, Nat.reduceLeDiff, Nat.reduceAdd, Nat.reduceMul, Nat.reduceSub, reduceCtorEq, Nat.reduceMod, Nat.reduceBEq, Int.reduceBEq, Int.reduceBNe, Int.reduceToNat]
        exact ⟨S, set_drop hid fun _ _ h => h, hK⟩
theorem dosZ_of {p : PV} (h : WTA C 6 28 p) : ∃ l : List KD, p = .sl .no 12 (encDs l) ∧ l.length ≤ 837723144971 := by
  have h0 := h
  unfold WTA at h
  simp only [CT, T28] at h
  unfold WT at h
  simp only [CT, T28] at h
  obtain ⟨sz, rows, hsz, hp, ⟨_, hb⟩, hr⟩ := h
  have hb := hb _ T44
  dsimp only at hb
  obtain ⟨l, hl⟩ := dosA_of h0
  injection hp with hp
  refine ⟨l, hl, ?_⟩
  rw [hl] at hp
  injection hp with _ _ hp
  rw [← hp, len_encDs] at hb
  unfold reachBytes at hb
  omega
end Go.Proofs.Ytmplfmhcpkmpbaa.V
