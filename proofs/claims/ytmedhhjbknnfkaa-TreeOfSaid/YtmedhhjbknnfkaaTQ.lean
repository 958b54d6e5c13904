/- Trees: Diff, and two lists of events alike. -/
import Derived.Test.YtmedhhjbknnfkaaTP
set_option linter.unusedVariables false
set_option linter.unusedSimpArgs false
namespace Go.Proofs.Ytmedhhjbknnfkaa.V
open Go Go.VL

theorem getD_encEvs {l : List Ev} {k : Nat} {p : Ev} (h : l[k]? = some p) : (encEvs l).getD k [] = [.int .i64 0, .str p.k, .bool p.had, .str p.old, .bool p.has, .str p.now] := by
  simp [encEvs, encEv, List.getD_eq_getElem?_getD, h]
theorem Diff_spec {p q : PV} {a b : T} (hp0 : Tr p a) (hq0 : Tr q b) (hsa : Sorted a.list) (hob : Ok b) (hsb : Sorted b.list) (hna : a.list.length ≤ 1000000) (hnb : b.list.length ≤ 1000000) (S : Store) :
    PRet Try.prog 29 [p, q] S (.sl .tail 6 (encEvs (evL a.list b.list))) := by
  intro K hK
  refine pcalls_of (C := C) (fun d => d == 4) (fun _ => false) Try.func29 rfl rfl (by simp [Try.f29]) ?_
  have hp : p.bare = p := by rcases hp0 with ⟨rfl, rfl⟩ | rfl <;> rfl
  have hq : q.bare = q := by rcases hq0 with ⟨rfl, rfl⟩ | rfl <;> rfl
  simp -implicitDefEqProofs only [go_sem, ↓reduceIte, Nat.reduceEqDiff, Nat.reduceLT, Nat.reduceLeDiff, Nat.reduceAdd, Nat.reduceMul, Nat.reduceSub, reduceCtorEq, Nat.reduceMod, Nat.reduceBEq, Int.reduceBEq, Int.reduceBNe, Int.reduceToNat, Try.f29, hp, hq]
  refine top_spec hp0 _ _ ?_
  simp -implicitDefEqProofs only [go_sem, ↓reduceIte, Nat.reduceEqDiff, Nat.reduceLT, Nat.reduceLeDiff, Nat.reduceAdd, Nat.reduceMul, Nat.reduceSub, reduceCtorEq, Nat.reduceMod, Nat.reduceBEq, Int.reduceBEq, Int.reduceBNe, Int.reduceToNat, hq]
  refine top_spec hq0 _ _ ?_
  simp -implicitDefEqProofs only [go_sem, ↓reduceIte, Nat.reduceEqDiff, Nat.reduceLT, Nat.reduceLeDiff, Nat.reduceAdd, Nat.reduceMul, Nat.reduceSub, reduceCtorEq, Nat.reduceMod, Nat.reduceBEq, Int.reduceBEq, Int.reduceBNe, Int.reduceToNat]
  refine diff_spec a b [] hsa hob hsb hnb (by simp; omega) _ _ ?_
  simp -implicitDefEqProofs only [go_sem, ↓reduceIte, Nat.reduceEqDiff, Nat.reduceLT, Nat.reduceLeDiff, Nat.reduceAdd, Nat.reduceMul, Nat.reduceSub, reduceCtorEq, Nat.reduceMod, Nat.reduceBEq, Int.reduceBEq, Int.reduceBNe, Int.reduceToNat]
  exact ⟨S, fun _ _ h => h, hK⟩
theorem EqualE_refl (L : List Ev) (hL : L.length ≤ 5000000) (S : Store) : PRet Try.prog 30 [.sl .no 6 (encEvs L), .sl .no 6 (encEvs L)] S (.bool true) := by
  intro K hK
  refine pcalls_of (C := C) (fun _ => false) (fun _ => false) Try.func30 rfl rfl (by simp [Try.f30]) ?_
  simp -implicitDefEqProofs only [go_sem, ↓reduceIte, Nat.reduceEqDiff, Nat.reduceLT, Nat.reduceLeDiff, Nat.reduceAdd, Nat.reduceMul, Nat.reduceSub, reduceCtorEq, Nat.reduceMod, Nat.reduceBEq, Int.reduceBEq, Int.reduceBNe, Int.reduceToNat, Try.f30]
  refine vloop (fun e S' => S' = S ∧ ∃ (k : Nat), k ≤ L.length ∧ e 0 = .sl .no 6 (encEvs L) ∧ e 1 = .sl .no 6 (encEvs L) ∧ e 12 = .int .i64 L.length ∧ e 13 = .int .i64 k) (fun e _ => L.length - iv (e 13)) ?_ ?_
  · exact ⟨rfl, 0, Nat.zero_le _, rfl, rfl, rfl, rfl⟩
  · rintro J M Q' hJ hM hQ e S' ⟨rfl, k, hk, e0, e1, e12, e13⟩
    by_cases hlt : k < L.length
    · obtain ⟨p, hp⟩ : ∃ p, L[k]? = some p := ⟨_, List.getElem?_eq_getElem hlt⟩
      have hin : (0 : Int) ≤ k ∧ (k : Int) < L.length := by omega
      have hk1 : IntKind.i64.wrap ((k : Int) + 1) = ((k + 1 : Nat) : Int) := wrap64 (by omega) (by omega)
      simp -implicitDefEqProofs only [go_sem, ↓reduceIte, Nat.reduceEqDiff, Nat.reduceLT, Nat.reduceLeDiff, Nat.reduceAdd, Nat.reduceMul, Nat.reduceSub, reduceCtorEq, Nat.reduceMod, Nat.reduceBEq, Int.reduceBEq, Int.reduceBNe, Int.reduceToNat, hin, hlt, e12, e13]
      refine vwp_draw (by decide +kernel) ?_
      simp -implicitDefEqProofs only [go_sem, ↓reduceIte, Nat.reduceEqDiff, Nat.reduceLT, Nat.reduceLeDiff, Nat.reduceAdd, Nat.reduceMul, Nat.reduceSub, reduceCtorEq, Nat.reduceMod, Nat.reduceBEq, Int.reduceBEq, Int.reduceBNe, Int.reduceToNat, hin, e0, e1, e12, e13, getD_encEvs hp, hk1, Bool.and_self, beq_self_eq_true]
      refine vnext hJ hM S' (fun _ _ h => h) ⟨rfl, k + 1, hlt, ?_, ?_, ?_, ?_⟩ ?_
      · simp -implicitDefEqProofs only [go_sem, ↓reduceIte, Nat.reduceEqDiff, Nat.reduceLT, Nat.reduceLeDiff, Nat.reduceAdd, Nat.reduceMul, Nat.reduceSub, reduceCtorEq, Nat.reduceMod, Nat.reduceBEq, Int.reduceBEq, Int.reduceBNe, Int.reduceToNat, e0]
      · simp -implicitDefEqProofs only [go_sem, ↓reduceIte, Nat.reduceEqDiff, Nat.reduceLT, Nat.reduceLeDiff, Nat.reduceAdd, Nat.reduceMul, Nat.reduceSub, reduceCtorEq, Nat.reduceMod, Nat.reduceBEq, Int.reduceBEq, Int.reduceBNe, Int.reduceToNat, e1]
      · simp -implicitDefEqProofs only [go_sem, ↓reduceIte, Nat.reduceEqDiff, Nat.reduceLT, Nat.reduceLeDiff, Nat.reduceAdd, Nat.reduceMul, Nat.reduceSub, reduceCtorEq, Nat.reduceMod, Nat.reduceBEq, Int.reduceBEq, Int.reduceBNe, Int.reduceToNat, e12]
      · simp -implicitDefEqProofs only [go_sem, ↓reduceIte, Nat.reduceEqDiff, Nat.reduceLT, Nat.reduceLeDiff, Nat.reduceAdd, Nat.reduceMul, Nat.reduceSub, reduceCtorEq, Nat.reduceMod, Nat.reduceBEq, Int.reduceBEq, Int.reduceBNe, Int.reduceToNat]
      · simp -implicitDefEqProofs only [go_sem, ↓reduceIte, Nat.reduceEqDiff, Nat.reduceLT, Nat.reduceLeDiff, Nat.reduceAdd, Nat.reduceMul, Nat.reduceSub, reduceCtorEq, Nat.reduceMod, Nat.reduceBEq, Int.reduceBEq, Int.reduceBNe, Int.reduceToNat]
        omega
    · have hcc : ¬ (k : Int) < L.length := by omega
      simp -implicitDefEqProofs only [go_sem, ↓reduceIte, Nat.reduceEqDiff, Nat.reduceLT, Nat.reduceLeDiff, Nat.reduceAdd, Nat.reduceMul, Nat.reduceSub, reduceCtorEq, Nat.reduceMod, Nat.reduceBEq, Int.reduceBEq, Int.reduceBNe, Int.reduceToNat, hcc, e12, e13]
      refine hQ _ _ _ ?_
      simp -implicitDefEqProofs only [go_sem, ↓reduceIte, Nat.reduceEqDiff, Nat.reduceLT, Nat.reduceLeDiff, Nat.reduceAdd, Nat.reduceMul, Nat.reduceSub, reduceCtorEq, Nat.reduceMod, Nat.reduceBEq, Int.reduceBEq, Int.reduceBNe, Int.reduceToNat]
      exact ⟨S', fun _ _ h => h, hK⟩
end Go.Proofs.Ytmedhhjbknnfkaa.V
