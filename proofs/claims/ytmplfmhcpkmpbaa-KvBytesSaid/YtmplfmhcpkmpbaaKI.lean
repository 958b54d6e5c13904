/- Maps: set; two lists alike; the examples. -/
import Derived.Test.YtmplfmhcpkmpbaaKH
set_option linter.unusedVariables false
set_option linter.unusedSimpArgs false
namespace Go.Proofs.Ytmplfmhcpkmpbaa.V
open Go Go.VL

theorem _root_.Go.VL.PCalls.unflag {P : Program} {f : FuncId} {args : List PV} {S : Store} {K : PV → Store → Prop} (h : PCalls P f (args.map PV.bare) S K) : PCalls P f args S K := by
  have e : ∀ t, argEnv (args.map PV.bare) t = (argEnv args t).bare := fun t => by
    unfold argEnv
    rw [List.getD_eq_getElem?_getD, List.getD_eq_getElem?_getD, List.getElem?_map]
    cases args[t]? <;> rfl
  refine ⟨h.1, fun g w rargs hst => h.2 g w rargs ⟨by rw [List.length_map]; exact hst.size, fun t ht => ?_, fun t ht => ?_, hst.objs, hst.new⟩⟩
  · rw [e]
    exact (hst.slots t (by rwa [List.length_map] at ht)).bare
  · rw [e, hst.beyond t (by rwa [List.length_map] at ht)]
    rfl

theorem opOf_spec (k v : ByteArray) (S : Store) : PRet Try.prog 47 [.str k, .str v] S (.agg [.str k, .bool true, .str v]) := by
  intro K hK
  refine pcalls_of (C := C) (fun _ => false) (fun _ => false) Try.func47 rfl rfl (by simp [Try.f47]) ?_
  simp -implicitDefEqProofs only [go_sem, ↓reduceIte, Nat.reduceEqDiff, Nat.reduceLT, Nat.reduceLeDiff, Nat.reduceAdd, Nat.reduceMul, Nat.reduceSub, reduceCtorEq, Nat.reduceMod, Nat.reduceBEq, Int.reduceBEq, Int.reduceBNe, Int.reduceToNat, Try.f47]
  exact ⟨S, fun _ _ h => h, hK⟩
theorem EqualO_refl (L : List KO) (hL : L.length ≤ 1000000) (S : Store) : PRet Try.prog 22 [.sl .no 3 (encOs L), .sl .no 3 (encOs L)] S (.bool true) := by
  intro K hK
  refine pcalls_of (C := C) (fun _ => false) (fun _ => false) Try.func22 rfl rfl (by simp [Try.f22]) ?_
  simp -implicitDefEqProofs only [go_sem, ↓reduceIte, Nat.reduceEqDiff, Nat.reduceLT, Nat.reduceLeDiff, Nat.reduceAdd, Nat.reduceMul, Nat.reduceSub, reduceCtorEq, Nat.reduceMod, Nat.reduceBEq, Int.reduceBEq, Int.reduceBNe, Int.reduceToNat, Try.f22]
  refine vloop (fun e S' => S' = S ∧ ∃ (k : Nat), k ≤ L.length ∧ e 0 = .sl .no 3 (encOs L) ∧ e 1 = .sl .no 3 (encOs L) ∧ e 12 = .int .i64 L.length ∧ e 13 = .int .i64 k) (fun e _ => L.length - iv (e 13)) ?_ ?_
  · exact ⟨rfl, 0, Nat.zero_le _, rfl, rfl, rfl, rfl⟩
  · rintro J M Q' hJ hM hQ e S' ⟨rfl, k, hk, e0, e1, e12, e13⟩
    by_cases hlt : k < L.length
    · obtain ⟨p, hp⟩ : ∃ p, L[k]? = some p := ⟨_, List.getElem?_eq_getElem hlt⟩
      have hin : (0 : Int) ≤ k ∧ (k : Int) < L.length := by omega
      have hk1 : IntKind.i64.wrap ((k : Int) + 1) = ((k + 1 : Nat) : Int) := wrap64 (by omega) (by omega)
      simp -implicitDefEqProofs only [go_sem, ↓reduceIte, Nat.reduceEqDiff, Nat.reduceLT, Nat.reduceLeDiff, Nat.reduceAdd, Nat.reduceMul, Nat.reduceSub, reduceCtorEq, Nat.reduceMod, Nat.reduceBEq, Int.reduceBEq, Int.reduceBNe, Int.reduceToNat, hin, hlt, e12, e13]
      refine vwp_draw (by decide +kernel) ?_
      simp -implicitDefEqProofs only [go_sem, ↓reduceIte, Nat.reduceEqDiff, Nat.reduceLT, Nat.reduceLeDiff, Nat.reduceAdd, Nat.reduceMul, Nat.reduceSub, reduceCtorEq, Nat.reduceMod, Nat.reduceBEq, Int.reduceBEq, Int.reduceBNe, Int.reduceToNat, hin, e0, e1, e12, e13, getD_encOs hp, hk1, Bool.and_self, beq_self_eq_true]
      refine vnext hJ hM S' (fun _ _ h => h) ⟨rfl, k + 1, hlt, ?_, ?_, ?_, ?_⟩ ?_
      · simp -implicitDefEqProofs only [go_sem, ↓reduceIte, Nat.reduceEqDiff, Nat.reduceLT, Nat.reduceLeDiff, Nat.reduceAdd, Nat.reduceMul, Nat.reduceSub, reduceCtorEq, Nat.reduceMod, Nat.reduceBEq, Int.reduceBEq, Int.reduceBNe, Int.reduceToNat, e0]
      · simp -implicitDefEqProofs only [go_sem, ↓reduceIte, Nat.reduceEqDiff, Nat.reduceLT, Nat.reduceLeDiff, Nat.reduceAdd, Nat.reduceMul, Nat.reduceSub, reduceCtorEq, Nat.reduceMod, Nat.reduceBEq, Int.reduceBEq, Int.reduceBNe, Int.reduceToNat, e1]
      · simp -implicitDefEqProofs only [go_sem, ↓reduceIte, Nat.reduceEqDiff, Nat.reduceLT, Nat.reduceLeDiff, Nat.reduceAdd, Nat.reduceMul, Nat.reduceSub, reduceCtorEq, Nat.reduceMod, Nat.reduceBEq, Int.reduceBEq, Int.reduceBNe, Int.reduceToNat, e12]
      · simp -implicitDefEqProofs only [go_sem, ↓reduceIte, Nat.reduceEqDiff, Nat.reduceLT, Nat.reduceLeDiff, Nat.reduceAdd, Nat.reduceMul, Nat.reduceSub, reduceCtorEq, Nat.reduceMod, Nat.reduceBEq, Int.reduceBEq, Int.reduceBNe, Int.reduceToNat]
      · simp -implicitDefEqProofs only [go_sem, ↓reduceIte, Nat.reduceEqDiff, Nat.reduceLT, Nat.reduceLeDiff, Nat.reduceAdd, Nat.reduceMul, Nat.reduceSub, reduceCtorEq, Nat.reduceMod, Nat.reduceBEq, Int.reduceBEq, Int.reduceBNe, Int.reduceToNat]
        omega
    · have hcc : ¬ (k : Int) < L.length := by omega
      simp -implicitDefEqProofs only [go_sem, ↓reduceIte, Nat.reduceEqDiff, Nat.reduceLT, Nat.reduceLeDiff, Nat.reduceAdd, Nat.reduceMul, Nat.reduceSub, reduceCtorEq, Nat.reduceMod, Nat.reduceBEq, Int.reduceBEq, Int.reduceBNe, Int.reduceToNat, hcc, e12, e13]
      refine hQ _ _ _ ?_
      simp -implicitDefEqProofs only [go_sem, ↓reduceIte, Nat.reduceEqDiff, Nat.reduceLT, Nat.reduceLeDiff, Nat.reduceAdd, Nat.reduceMul, Nat.reduceSub, reduceCtorEq, Nat.reduceMod, Nat.reduceBEq, Int.reduceBEq, Int.reduceBNe, Int.reduceToNat]
      exact ⟨S', fun _ _ h => h, hK⟩
theorem EqualV_refl (L : List KV) (hL : L.length ≤ 1000000) (S : Store) : PRet Try.prog 27 [.sl .no 6 (encVs L), .sl .no 6 (encVs L)] S (.bool true) := by
  intro K hK
  refine pcalls_of (C := C) (fun _ => false) (fun _ => false) Try.func27 rfl rfl (by simp [Try.f27]) ?_
  simp -implicitDefEqProofs only [go_sem, ↓reduceIte, Nat.reduceEqDiff, Nat.reduceLT, Nat.reduceLeDiff, Nat.reduceAdd, Nat.reduceMul, Nat.reduceSub, reduceCtorEq, Nat.reduceMod, Nat.reduceBEq, Int.reduceBEq, Int.reduceBNe, Int.reduceToNat, Try.f27]
  refine vloop (fun e S' => S' = S ∧ ∃ (k : Nat), k ≤ L.length ∧ e 0 = .sl .no 6 (encVs L) ∧ e 1 = .sl .no 6 (encVs L) ∧ e 12 = .int .i64 L.length ∧ e 13 = .int .i64 k) (fun e _ => L.length - iv (e 13)) ?_ ?_
  · exact ⟨rfl, 0, Nat.zero_le _, rfl, rfl, rfl, rfl⟩
  · rintro J M Q' hJ hM hQ e S' ⟨rfl, k, hk, e0, e1, e12, e13⟩
    by_cases hlt : k < L.length
    · obtain ⟨p, hp⟩ : ∃ p, L[k]? = some p := ⟨_, List.getElem?_eq_getElem hlt⟩
      have hin : (0 : Int) ≤ k ∧ (k : Int) < L.length := by omega
      have hk1 : IntKind.i64.wrap ((k : Int) + 1) = ((k + 1 : Nat) : Int) := wrap64 (by omega) (by omega)
      simp -implicitDefEqProofs only [go_sem, ↓reduceIte, Nat.reduceEqDiff, Nat.reduceLT, Nat.reduceLeDiff, Nat.reduceAdd, Nat.reduceMul, Nat.reduceSub, reduceCtorEq, Nat.reduceMod, Nat.reduceBEq, Int.reduceBEq, Int.reduceBNe, Int.reduceToNat, hin, hlt, e12, e13]
      refine vwp_draw (by decide +kernel) ?_
      simp -implicitDefEqProofs only [go_sem, ↓reduceIte, Nat.reduceEqDiff, Nat.reduceLT, Nat.reduceLeDiff, Nat.reduceAdd, Nat.reduceMul, Nat.reduceSub, reduceCtorEq, Nat.reduceMod, Nat.reduceBEq, Int.reduceBEq, Int.reduceBNe, Int.reduceToNat, hin, e0, e1, e12, e13, getD_encVs hp, hk1, Bool.and_self, beq_self_eq_true]
      refine vnext hJ hM S' (fun _ _ h => h) ⟨rfl, k + 1, hlt, ?_, ?_, ?_, ?_⟩ ?_
      · simp -implicitDefEqProofs only [go_sem, ↓reduceIte, Nat.reduceEqDiff, Nat.reduceLT, Nat.reduceLeDiff, Nat.reduceAdd, Nat.reduceMul, Nat.reduceSub, reduceCtorEq, Nat.reduceMod, Nat.reduceBEq, Int.reduceBEq, Int.reduceBNe, Int.reduceToNat, e0]
      · simp -implicitDefEqProofs only [go_sem, ↓reduceIte, Nat.reduceEqDiff, Nat.reduceLT, Nat.reduceLeDiff, Nat.reduceAdd, Nat.reduceMul, Nat.reduceSub, reduceCtorEq, Nat.reduceMod, Nat.reduceBEq, Int.reduceBEq, Int.reduceBNe, Int.reduceToNat, e1]
      · simp -implicitDefEqProofs only [go_sem, ↓reduceIte, Nat.reduceEqDiff, Nat.reduceLT, Nat.reduceLeDiff, Nat.reduceAdd, Nat.reduceMul, Nat.reduceSub, reduceCtorEq, Nat.reduceMod, Nat.reduceBEq, Int.reduceBEq, Int.reduceBNe, Int.reduceToNat, e12]
      · simp -implicitDefEqProofs only [go_sem, ↓reduceIte, Nat.reduceEqDiff, Nat.reduceLT, Nat.reduceLeDiff, Nat.reduceAdd, Nat.reduceMul, Nat.reduceSub, reduceCtorEq, Nat.reduceMod, Nat.reduceBEq, Int.reduceBEq, Int.reduceBNe, Int.reduceToNat]
      · simp -implicitDefEqProofs only [go_sem, ↓reduceIte, Nat.reduceEqDiff, Nat.reduceLT, Nat.reduceLeDiff, Nat.reduceAdd, Nat.reduceMul, Nat.reduceSub, reduceCtorEq, Nat.reduceMod, Nat.reduceBEq, Int.reduceBEq, Int.reduceBNe, Int.reduceToNat]
        omega
    · have hcc : ¬ (k : Int) < L.length := by omega
      simp -implicitDefEqProofs only [go_sem, ↓reduceIte, Nat.reduceEqDiff, Nat.reduceLT, Nat.reduceLeDiff, Nat.reduceAdd, Nat.reduceMul, Nat.reduceSub, reduceCtorEq, Nat.reduceMod, Nat.reduceBEq, Int.reduceBEq, Int.reduceBNe, Int.reduceToNat, hcc, e12, e13]
      refine hQ _ _ _ ?_
      simp -implicitDefEqProofs only [go_sem, ↓reduceIte, Nat.reduceEqDiff, Nat.reduceLT, Nat.reduceLeDiff, Nat.reduceAdd, Nat.reduceMul, Nat.reduceSub, reduceCtorEq, Nat.reduceMod, Nat.reduceBEq, Int.reduceBEq, Int.reduceBNe, Int.reduceToNat]
      exact ⟨S', fun _ _ h => h, hK⟩

/-! ### the examples -/
theorem ltd (a b : ByteArray) : lt a b = Op.bytesLess a.data.toList b.data.toList := by unfold lt; rw [ByteArray.toList_eq, ByteArray.toList_eq]
abbrev bA : ByteArray := ⟨#[97]⟩
abbrev bB : ByteArray := ⟨#[98]⟩
abbrev b1 : ByteArray := ⟨#[49]⟩
abbrev b2 : ByteArray := ⟨#[50]⟩
abbrev b3 : ByteArray := ⟨#[51]⟩
theorem lt_ab : lt bA bB = true := by rw [ltd]; rfl
theorem lt_ba : lt bB bA = false := by rw [ltd]; rfl
theorem same_ab : same bA bB = false := same_lt lt_ab
theorem same_ba : same bB bA = false := same_gt lt_ab
theorem same_n1 : same ⟨#[]⟩ b1 = false := same_lt (by rw [ltd]; rfl)
theorem same_n2 : same ⟨#[]⟩ b2 = false := same_lt (by rw [ltd]; rfl)
theorem same_n3 : same ⟨#[]⟩ b3 = false := same_lt (by rw [ltd]; rfl)
theorem one_rune (c : UInt8) (h : Utf8.decode ⟨#[c]⟩ 0 = (c.toNat, 1)) : runes ⟨#[c]⟩ 0 = [c.toNat] := by
  rw [runes_lt (show 0 < 1 by decide), h, runes_ge (show ¬ 0 + 1 < 1 by decide)]
theorem key1 : keyQ bA = true := by unfold keyQ; rw [one_rune 97 (by rfl)]; decide
theorem key2 : keyQ bB = true := by unfold keyQ; rw [one_rune 98 (by rfl)]; decide
theorem val1 : valQ b1 = true := by unfold valQ; rw [one_rune 49 (by rfl)]; decide
theorem val2 : valQ b2 = true := by unfold valQ; rw [one_rune 50 (by rfl)]; decide
theorem val3 : valQ b3 = true := by unfold valQ; rw [one_rune 51 (by rfl)]; decide
theorem plan1 : planF [] 5 [] [⟨bA, true, b1⟩] = ([⟨5, bA, false, ⟨#[]⟩, true, b1⟩], 0) := by
  simp [planF, checkF, rightF, badV, seenQ, key1, val1, planN, delta, condQ, hasQ, getQ, look, planE, evOf]
theorem do1 : doF [] 5 [] [⟨bA, true, b1⟩] = [(bA, b1)] := by
  simp [doF, plan1, takeF, evDo, putL, below, above]
theorem plan2 : planF [(bA, b1)] 6 [⟨bA, true, b1⟩] [⟨bA, false, ⟨#[]⟩⟩, ⟨bB, true, b2⟩] = ([⟨6, bA, true, b1, false, ⟨#[]⟩⟩, ⟨6, bB, false, ⟨#[]⟩, true, b2⟩], 0) := by
  simp [planF, checkF, rightF, badV, seenQ, key1, key2, val1, val2, planN, delta, condQ, hasQ, getQ, look, planE, evOf, same_refl, same_ab, same_n2]
theorem do2 : doF [(bA, b1)] 6 [⟨bA, true, b1⟩] [⟨bA, false, ⟨#[]⟩⟩, ⟨bB, true, b2⟩] = [(bB, b2)] := by
  simp [doF, plan2, takeF, evDo, putL, dropL, below, above, same_refl]
theorem plan3 : planF [(bB, b2)] 7 [⟨bA, true, b1⟩] [⟨bB, true, b3⟩] = ([], 60) := by
  simp [planF, checkF, rightF, badV, seenQ, key1, key2, val1, val3, condQ, hasQ, getQ, look, same_ba]
theorem do3 : doF [(bB, b2)] 7 [⟨bA, true, b1⟩] [⟨bB, true, b3⟩] = [(bB, b2)] := by
  simp [doF, plan3]
theorem encO_put (k v : ByteArray) : [[PV.str k, .bool true, .str v]] = encOs [⟨k, true, v⟩] := rfl
theorem getB : look bB [(bB, b2)] = some b2 := by simp [look, same_refl]

set_option maxHeartbeats 2000000 in
theorem awake_spec (S : Store) : PRet Try.prog 14 [] S (.bool true) := by
  intro K hK
  refine pcalls_of (C := C) (fun _ => false) (fun _ => false) Try.func14 rfl rfl (by simp [Try.f14]) ?_
  simp -implicitDefEqProofs only [go_sem, ↓reduceIte, Nat.reduceEqDiff, Nat.reduceLT, Nat.reduceLeDiff, Nat.reduceAdd, Nat.reduceMul, Nat.reduceSub, reduceCtorEq, Nat.reduceMod, Nat.reduceBEq, Int.reduceBEq, Int.reduceBNe, Int.reduceToNat, Try.f14]
  refine KNew_calls _ _ fun id hid => ?_
  have h0 := Km.mk S id (t := .nil) trivial List.Pairwise.nil
  simp -implicitDefEqProofs only [go_sem, ↓reduceIte, Nat.reduceEqDiff, Nat.reduceLT, Nat.reduceLeDiff, Nat.reduceAdd, Nat.reduceMul, Nat.reduceSub, reduceCtorEq, Nat.reduceMod, Nat.reduceBEq, Int.reduceBEq, Int.reduceBNe, Int.reduceToNat]
  refine opOf_spec _ _ _ _ ?_
  simp -implicitDefEqProofs only [go_sem, ↓reduceIte, Nat.reduceEqDiff, Nat.reduceLT, Nat.reduceLeDiff, Nat.reduceAdd, Nat.reduceMul, Nat.reduceSub, reduceCtorEq, Nat.reduceMod, Nat.reduceBEq, Int.reduceBEq, Int.reduceBNe, Int.reduceToNat]
  refine PCalls.unflag ?_
  refine KDo_calls h0 (by simp [T.list]) 5 [] [⟨bA, true, b1⟩] _ fun q1 k1 l1 => ?_
  rw [show T.list .nil = [] from rfl] at l1 ⊢
  rw [do1] at l1
  rw [plan1]
  unfold encPl
  rw [set_set] at k1 ⊢
  simp -implicitDefEqProofs only [go_sem, ↓reduceIte, Nat.reduceEqDiff, Nat.reduceLT, Nat.reduceLeDiff, Nat.reduceAdd, Nat.reduceMul, Nat.reduceSub, reduceCtorEq, Nat.reduceMod, Nat.reduceBEq, Int.reduceBEq, Int.reduceBNe, Int.reduceToNat]
  refine opOf_spec _ _ _ _ ?_
  simp -implicitDefEqProofs only [go_sem, ↓reduceIte, Nat.reduceEqDiff, Nat.reduceLT, Nat.reduceLeDiff, Nat.reduceAdd, Nat.reduceMul, Nat.reduceSub, reduceCtorEq, Nat.reduceMod, Nat.reduceBEq, Int.reduceBEq, Int.reduceBNe, Int.reduceToNat]
  refine opOf_spec _ _ _ _ ?_
  simp -implicitDefEqProofs only [go_sem, ↓reduceIte, Nat.reduceEqDiff, Nat.reduceLT, Nat.reduceLeDiff, Nat.reduceAdd, Nat.reduceMul, Nat.reduceSub, reduceCtorEq, Nat.reduceMod, Nat.reduceBEq, Int.reduceBEq, Int.reduceBNe, Int.reduceToNat]
  refine PCalls.unflag ?_
  refine KDo_calls k1 (by rw [l1]; simp) 6 [⟨bA, true, b1⟩] [⟨bA, false, ⟨#[]⟩⟩, ⟨bB, true, b2⟩] _ fun q2 k2 l2 => ?_
  rw [l1] at l2 ⊢
  rw [do2] at l2
  rw [plan2]
  unfold encPl
  rw [set_set] at k2 ⊢
  simp -implicitDefEqProofs only [go_sem, ↓reduceIte, Nat.reduceEqDiff, Nat.reduceLT, Nat.reduceLeDiff, Nat.reduceAdd, Nat.reduceMul, Nat.reduceSub, reduceCtorEq, Nat.reduceMod, Nat.reduceBEq, Int.reduceBEq, Int.reduceBNe, Int.reduceToNat]
  refine opOf_spec _ _ _ _ ?_
  simp -implicitDefEqProofs only [go_sem, ↓reduceIte, Nat.reduceEqDiff, Nat.reduceLT, Nat.reduceLeDiff, Nat.reduceAdd, Nat.reduceMul, Nat.reduceSub, reduceCtorEq, Nat.reduceMod, Nat.reduceBEq, Int.reduceBEq, Int.reduceBNe, Int.reduceToNat]
  refine opOf_spec _ _ _ _ ?_
  simp -implicitDefEqProofs only [go_sem, ↓reduceIte, Nat.reduceEqDiff, Nat.reduceLT, Nat.reduceLeDiff, Nat.reduceAdd, Nat.reduceMul, Nat.reduceSub, reduceCtorEq, Nat.reduceMod, Nat.reduceBEq, Int.reduceBEq, Int.reduceBNe, Int.reduceToNat]
  refine PCalls.unflag ?_
  refine KDo_calls k2 (by rw [l2]; simp) 7 [⟨bA, true, b1⟩] [⟨bB, true, b3⟩] _ fun q3 k3 l3 => ?_
  rw [l2] at l3 ⊢
  rw [do3] at l3
  rw [plan3]
  unfold encPl
  rw [set_set] at k3 ⊢
  simp -implicitDefEqProofs only [go_sem, ↓reduceIte, Nat.reduceEqDiff, Nat.reduceLT, Nat.reduceLeDiff, Nat.reduceAdd, Nat.reduceMul, Nat.reduceSub, reduceCtorEq, Nat.reduceMod, Nat.reduceBEq, Int.reduceBEq, Int.reduceBNe, Int.reduceToNat]
  refine KGet_spec k3 bB _ ?_
  rw [l3, getB]
  simp -implicitDefEqProofs only [go_sem, ↓reduceIte, Nat.reduceEqDiff, Nat.reduceLT, Nat.reduceLeDiff, Nat.reduceAdd, Nat.reduceMul, Nat.reduceSub, reduceCtorEq, Nat.reduceMod, Nat.reduceBEq, Int.reduceBEq, Int.reduceBNe, Int.reduceToNat, e00, Option.getD_some, Option.isSome_some]
  refine EqualV_refl [⟨5, bA, false, ⟨#[]⟩, true, b1⟩] (by simp) _ _ ?_
  have e60 : ((60 : Int) == 60) = true := rfl
  have e22 : (((2 : Nat) : Int) == 2) = true := rfl
  have e11 : (((1 : Nat) : Int) == 1) = true := rfl
  simp -implicitDefEqProofs only [go_sem, ↓reduceIte, Nat.reduceEqDiff, Nat.reduceLT, Nat.reduceLeDiff, Nat.reduceAdd, Nat.reduceMul, Nat.reduceSub, reduceCtorEq, Nat.reduceMod, Nat.reduceBEq, Int.reduceBEq, Int.reduceBNe, Int.reduceToNat, e60, e22, same_refl, encVs, List.map_cons, List.map_nil]
  refine KLen_spec k3 _ ?_
  rw [l3]
  simp -implicitDefEqProofs only [go_sem, ↓reduceIte, Nat.reduceEqDiff, Nat.reduceLT, Nat.reduceLeDiff, Nat.reduceAdd, Nat.reduceMul, Nat.reduceSub, reduceCtorEq, Nat.reduceMod, Nat.reduceBEq, Int.reduceBEq, Int.reduceBNe, Int.reduceToNat, e11]
  exact ⟨S, set_drop hid fun _ _ h => h, hK⟩
end Go.Proofs.Ytmplfmhcpkmpbaa.V
