/- Views: weighed and short lists; lists of rows alike. -/
import Derived.Test.YtdioedabjaaboaaGreatXP
set_option linter.unusedVariables false
set_option linter.unusedSimpArgs false
namespace Go.Proofs.YtdioedabjaaboaaGreat.V
open Go Go.VL

def costV (o : KO) : Nat := 1 + min o.k.size 16384 + min o.v.size 16384
def weighV (n : Nat) : List KO → Nat
 | [] => n
 | o :: l => if n ≤ 16384 then weighV (n + costV o) l else n
theorem weighV_lt : ∀ (l : List KO) (n : Nat), n ≤ 100000 → weighV n l ≤ 100000
 | [], n, h => h
 | o :: l, n, h => by
  unfold weighV
  split
  ·refine weighV_lt l _ ?_
   unfold costV
   omega
  ·exact h
set_option maxHeartbeats 1000000 in
theorem weighV_spec (l : List KO) (S : Store) : PRet Tryz.prog 50 [.sl .no 3 (encOs l)] S (.int .i64 (weighV 0 l : Nat)) := by
 intro K hK
 refine pcalls_of (C := C) (fun _ => false) (fun _ => false) Tryz.func50 rfl rfl (by simp [Tryz.f50]) ?_
 simp -implicitDefEqProofs only [go_sem, ↓reduceIte, Nat.reduceEqDiff, Nat.reduceLT, Nat.reduceLeDiff, Nat.reduceAdd, Nat.reduceMul, Nat.reduceSub, reduceCtorEq, Nat.reduceMod, Nat.reduceBEq, Int.reduceBEq, Int.reduceBNe, Int.reduceToNat, Tryz.f50]
 refine vloop (fun e S' => S' = S ∧ ∃ (k n : Nat), k ≤ l.length ∧ k ≤ n ∧ n ≤ 100000 ∧ weighV 0 l = weighV n (l.drop k) ∧ e 0 = .sl .no 3 (encOs l) ∧ e 3 = .int .i64 n ∧ e 4 = .int .i64 k) (fun e _ => l.length - iv (e 4)) ?_ ?_
 ·exact ⟨rfl, 0, 0, Nat.zero_le _, Nat.zero_le _, Nat.zero_le _, rfl, rfl, rfl, rfl⟩
 ·rintro J M Q' hJ hM hQ e S' ⟨rfl, k, n, hk, hkn, hn, hr, e0, e3, e4⟩
  by_cases hlt : k < l.length
  ·obtain ⟨o, ho⟩ : ∃ o, l[k]? = some o := ⟨_, List.getElem?_eq_getElem hlt⟩
   have hin : (0 : Int) ≤ k ∧ (k : Int) < l.length := by omega
   have hk1 : IntKind.i64.wrap ((k : Int) + 1) = ((k + 1 : Nat) : Int) := wrap64 (by omega) (by omega)
   rw [drop_cons ho, weighV] at hr
   by_cases h1 : n ≤ 16384
   ·have d1 : (n : Int) ≤ 16384 := by omega
    rw [if_pos h1] at hr
    have m1 : (if (16384 : Int) < (o.k.size : Int) then (16384 : Int) else (o.k.size : Int)) = ((min o.k.size 16384 : Nat) : Int) := by split <;> omega
    have m2 : (if (16384 : Int) < (o.v.size : Int) then (16384 : Int) else (o.v.size : Int)) = ((min o.v.size 16384 : Nat) : Int) := by split <;> omega
    have w1 : IntKind.i64.wrap (1 + ((min o.k.size 16384 : Nat) : Int)) = ((1 + min o.k.size 16384 : Nat) : Int) := by rw [wrap64 (by omega) (by omega)]; omega
    have w2 : IntKind.i64.wrap (((1 + min o.k.size 16384 : Nat) : Int) + ((min o.v.size 16384 : Nat) : Int)) = (costV o : Int) := by unfold costV; rw [wrap64 (by omega) (by omega)]; omega
    have hco : costV o ≤ 32769 := by unfold costV; omega
    have hco1 : 1 ≤ costV o := by unfold costV; omega
    have w3 : IntKind.i64.wrap ((n : Int) + (costV o : Int)) = ((n + costV o : Nat) : Int) := by rw [wrap64 (by omega) (by omega)]; omega
    simp -implicitDefEqProofs only [go_sem, ↓reduceIte, Nat.reduceEqDiff, Nat.reduceLT, Nat.reduceLeDiff, Nat.reduceAdd, Nat.reduceMul, Nat.reduceSub, reduceCtorEq, Nat.reduceMod, Nat.reduceBEq, Int.reduceBEq, Int.reduceBNe, Int.reduceToNat, hin, hlt, d1, e0, e3, e4]
    refine vwp_draw (by decide +kernel) ?_
    simp -implicitDefEqProofs only [go_sem, ↓reduceIte, Nat.reduceEqDiff, Nat.reduceLT, Nat.reduceLeDiff, Nat.reduceAdd, Nat.reduceMul, Nat.reduceSub, reduceCtorEq, Nat.reduceMod, Nat.reduceBEq, Int.reduceBEq, Int.reduceBNe, Int.reduceToNat, hin, hlt, e0, e3, e4, getD_encOs ho, m1, m2, w1, w2, w3, hk1]
    refine vnext hJ hM S' (fun _ _ h => h) ⟨rfl, k + 1, n + costV o, hlt, by omega, by omega, hr, ?_, ?_, ?_⟩ ?_
    ·simp -implicitDefEqProofs only [go_sem, ↓reduceIte, Nat.reduceEqDiff, e0]
    ·simp -implicitDefEqProofs only [go_sem, ↓reduceIte, Nat.reduceEqDiff]
    ·simp -implicitDefEqProofs only [go_sem, ↓reduceIte, Nat.reduceEqDiff]
    ·simp -implicitDefEqProofs only [go_sem, ↓reduceIte, Nat.reduceEqDiff, e4]
     omega
   ·have d1 : ¬ (n : Int) ≤ 16384 := by omega
    rw [if_neg h1] at hr
    rw [hr] at hK
    simp -implicitDefEqProofs only [go_sem, ↓reduceIte, Nat.reduceEqDiff, Nat.reduceLT, Nat.reduceLeDiff, Nat.reduceAdd, Nat.reduceMul, Nat.reduceSub, reduceCtorEq, Nat.reduceMod, Nat.reduceBEq, Int.reduceBEq, Int.reduceBNe, Int.reduceToNat, hin, hlt, d1, e0, e3, e4]
    refine hQ _ _ _ ?_
    simp -implicitDefEqProofs only [go_sem, ↓reduceIte, Nat.reduceEqDiff, Nat.reduceLT, Nat.reduceLeDiff, Nat.reduceAdd, Nat.reduceMul, Nat.reduceSub, reduceCtorEq, Nat.reduceMod, Nat.reduceBEq, Int.reduceBEq, Int.reduceBNe, Int.reduceToNat, e3]
    exact ⟨S', fun _ _ h => h, hK⟩
  ·have hcc : ¬ (k : Int) < l.length := by omega
   rw [List.drop_of_length_le (by omega), weighV] at hr
   rw [hr] at hK
   simp -implicitDefEqProofs only [go_sem, ↓reduceIte, Nat.reduceEqDiff, Nat.reduceLT, Nat.reduceLeDiff, Nat.reduceAdd, Nat.reduceMul, Nat.reduceSub, reduceCtorEq, Nat.reduceMod, Nat.reduceBEq, Int.reduceBEq, Int.reduceBNe, Int.reduceToNat, hcc, e0, e4]
   refine hQ _ _ _ ?_
   simp -implicitDefEqProofs only [go_sem, ↓reduceIte, Nat.reduceEqDiff, Nat.reduceLT, Nat.reduceLeDiff, Nat.reduceAdd, Nat.reduceMul, Nat.reduceSub, reduceCtorEq, Nat.reduceMod, Nat.reduceBEq, Int.reduceBEq, Int.reduceBNe, Int.reduceToNat, e3]
   exact ⟨S', fun _ _ h => h, hK⟩
/-- Something that befalls views over a map. -/
structure DV where
 op : Int
 ops : List KO
 view : Wv
def encDv (d : DV) : List PV := [.int .i64 d.op, .sl .no 3 (encOs d.ops), .str d.view.name, .int .i64 d.view.kind, .str d.view.field, .str d.view.of_]
def encDvs (l : List DV) : List (List PV) := l.map encDv
@[go_sem] theorem len_encDvs (l : List DV) : (encDvs l).length = l.length := by simp [encDvs]
theorem getD_encDvs {l : List DV} {k : Nat} {d : DV} (h : l[k]? = some d) : (encDvs l).getD k [] = [.int .i64 d.op, .sl .no 3 (encOs d.ops), .str d.view.name, .int .i64 d.view.kind, .str d.view.field, .str d.view.of_] := by
 simp [encDvs, encDv, List.getD_eq_getElem?_getD, h]
def costDv (d : DV) : Nat := weighV 0 d.ops + min d.view.name.size 16384 + min d.view.field.size 16384 + min d.view.of_.size 16384
def shortNv (k n : Nat) : List DV → Nat
 | [] => n
 | d :: l => if k ≤ 60 ∧ n ≤ 16384 then shortNv (k + 1) (n + costDv d) l else n
def shortV (l : List DV) : Bool := decide (l.length ≤ 60) && decide (shortNv 0 0 l ≤ 16384)
theorem costDv_le (d : DV) : costDv d ≤ 149152 := by
 have h2 := weighV_lt d.ops 0 (by omega)
 unfold costDv
 omega
set_option maxHeartbeats 2000000 in
theorem shortV_spec (l : List DV) (S : Store) : PRet Tryz.prog 16 [.sl .no 6 (encDvs l)] S (.bool (shortV l)) := by
 intro K hK
 refine pcalls_of (C := C) (fun _ => false) (fun _ => false) Tryz.func16 rfl rfl (by simp [Tryz.f16]) ?_
 simp -implicitDefEqProofs only [go_sem, ↓reduceIte, Nat.reduceEqDiff, Nat.reduceLT, Nat.reduceLeDiff, Nat.reduceAdd, Nat.reduceMul, Nat.reduceSub, reduceCtorEq, Nat.reduceMod, Nat.reduceBEq, Int.reduceBEq, Int.reduceBNe, Int.reduceToNat, Tryz.f16]
 refine vloop (fun e S' => S' = S ∧ ∃ (k n : Nat), k ≤ l.length ∧ k ≤ 61 ∧ n ≤ 200000 ∧ shortNv 0 0 l = shortNv k n (l.drop k) ∧ e 0 = .sl .no 6 (encDvs l) ∧ e 3 = .int .i64 n ∧ e 4 = .int .i64 k) (fun e _ => l.length - iv (e 4)) ?_ ?_
 ·exact ⟨rfl, 0, 0, Nat.zero_le _, Nat.zero_le _, Nat.zero_le _, rfl, rfl, rfl, rfl⟩
 ·rintro J M Q' hJ hM hQ e S' ⟨rfl, k, n, hk, hk1, hn, hr, e0, e3, e4⟩
  by_cases hlt : k < l.length
  ·obtain ⟨d, hd⟩ : ∃ d, l[k]? = some d := ⟨_, List.getElem?_eq_getElem hlt⟩
   have hin : (0 : Int) ≤ k ∧ (k : Int) < l.length := by omega
   rw [drop_cons hd, shortNv] at hr
   by_cases h1 : k ≤ 60
   ·have d1 : (k : Int) ≤ 60 := by omega
    by_cases h2 : n ≤ 16384
    ·have d2 : (n : Int) ≤ 16384 := by omega
     rw [if_pos ⟨h1, h2⟩] at hr
     have hcl := costDv_le d
     have c2 := weighV_lt d.ops 0 (by omega)
     have hcd : costDv d = weighV 0 d.ops + min d.view.name.size 16384 + min d.view.field.size 16384 + min d.view.of_.size 16384 := rfl
     have mm : ∀ x : Nat, (if (16384 : Int) < (x : Int) then (16384 : Int) else (x : Int)) = ((min x 16384 : Nat) : Int) := fun x => by split <;> omega
     have hkk : IntKind.i64.wrap ((k : Int) + 1) = ((k + 1 : Nat) : Int) := wrap64 (by omega) (by omega)
     generalize hw2 : weighV 0 d.ops = a2 at *
     have z1 : ∀ x : Nat, min x 16384 ≤ 16384 := fun x => by omega
     have z3 := z1 d.view.name.size
     have z4 := z1 d.view.field.size
     have z5 := z1 d.view.of_.size
     generalize hw3 : min d.view.name.size 16384 = a3 at *
     generalize hw4 : min d.view.field.size 16384 = a4 at *
     generalize hw5 : min d.view.of_.size 16384 = a5 at *
     have m3 := mm d.view.name.size
     have m4 := mm d.view.field.size
     have m5 := mm d.view.of_.size
     rw [hw3] at m3
     rw [hw4] at m4
     rw [hw5] at m5
     have w3 : IntKind.i64.wrap ((a2 : Int) + (a3 : Int)) = ((a2 + a3 : Nat) : Int) := by rw [wrap64 (by omega) (by omega)]; omega
     have w4 : IntKind.i64.wrap (((a2 + a3 : Nat) : Int) + (a4 : Int)) = ((a2 + a3 + a4 : Nat) : Int) := by rw [wrap64 (by omega) (by omega)]; omega
     have w5 : IntKind.i64.wrap (((a2 + a3 + a4 : Nat) : Int) + (a5 : Int)) = (costDv d : Int) := by rw [hcd, wrap64 (by omega) (by omega)]; omega
     have w7 : IntKind.i64.wrap ((n : Int) + (costDv d : Int)) = ((n + costDv d : Nat) : Int) := by rw [wrap64 (by omega) (by omega)]; omega
     simp -implicitDefEqProofs only [go_sem, ↓reduceIte, Nat.reduceEqDiff, Nat.reduceLT, Nat.reduceLeDiff, Nat.reduceAdd, Nat.reduceMul, Nat.reduceSub, reduceCtorEq, Nat.reduceMod, Nat.reduceBEq, Int.reduceBEq, Int.reduceBNe, Int.reduceToNat, hin, hlt, d1, d2, e0, e3, e4, Int.toNat_natCast, getD_encDvs hd]
     refine vwp_draw (by decide +kernel) ?_
     simp -implicitDefEqProofs only [go_sem, ↓reduceIte, Nat.reduceEqDiff, Nat.reduceLT, Nat.reduceLeDiff, Nat.reduceAdd, Nat.reduceMul, Nat.reduceSub, reduceCtorEq, Nat.reduceMod, Nat.reduceBEq, Int.reduceBEq, Int.reduceBNe, Int.reduceToNat, hin, e0, e3, e4, getD_encDvs hd]
     refine q_call _ (by simp -implicitDefEqProofs only [go_sem, ↓reduceIte, Nat.reduceEqDiff]; exact weighV_spec d.ops _) (by decide) rfl ?_
     rw [hw2]
     simp -implicitDefEqProofs only [go_sem, ↓reduceIte, Nat.reduceEqDiff, Nat.reduceLT, Nat.reduceLeDiff, Nat.reduceAdd, Nat.reduceMul, Nat.reduceSub, reduceCtorEq, Nat.reduceMod, Nat.reduceBEq, Int.reduceBEq, Int.reduceBNe, Int.reduceToNat, hin, e0, e3, e4, getD_encDvs hd, m3, m4, m5, w3, w4, w5, w7, hkk]
     refine vnext hJ hM S' (fun _ _ h => h) ⟨rfl, k + 1, n + costDv d, hlt, by omega, by omega, hr, ?_, ?_, ?_⟩ ?_
     ·simp -implicitDefEqProofs only [go_sem, ↓reduceIte, Nat.reduceEqDiff, e0]
     ·simp -implicitDefEqProofs only [go_sem, ↓reduceIte, Nat.reduceEqDiff]
     ·simp -implicitDefEqProofs only [go_sem, ↓reduceIte, Nat.reduceEqDiff]
     ·simp -implicitDefEqProofs only [go_sem, ↓reduceIte, Nat.reduceEqDiff, e4]
      omega
    ·have d2 : ¬ (n : Int) ≤ 16384 := by omega
     rw [if_neg (by omega)] at hr
     simp -implicitDefEqProofs only [go_sem, ↓reduceIte, Nat.reduceEqDiff, Nat.reduceLT, Nat.reduceLeDiff, Nat.reduceAdd, Nat.reduceMul, Nat.reduceSub, reduceCtorEq, Nat.reduceMod, Nat.reduceBEq, Int.reduceBEq, Int.reduceBNe, Int.reduceToNat, hin, hlt, d1, d2, e0, e3, e4]
     refine hQ _ _ _ ?_
     unfold shortV at hK
     rw [hr, show decide (n ≤ 16384) = false by simp; omega, Bool.and_false] at hK
     by_cases hl : (l.length : Int) ≤ 60
     ·simp -implicitDefEqProofs only [go_sem, ↓reduceIte, Nat.reduceEqDiff, Nat.reduceLT, Nat.reduceLeDiff, Nat.reduceAdd, Nat.reduceMul, Nat.reduceSub, reduceCtorEq, Nat.reduceMod, Nat.reduceBEq, Int.reduceBEq, Int.reduceBNe, Int.reduceToNat, e0, e3, hl, d2]
      exact ⟨S', fun _ _ h => h, hK⟩
     ·simp -implicitDefEqProofs only [go_sem, ↓reduceIte, Nat.reduceEqDiff, Nat.reduceLT, Nat.reduceLeDiff, Nat.reduceAdd, Nat.reduceMul, Nat.reduceSub, reduceCtorEq, Nat.reduceMod, Nat.reduceBEq, Int.reduceBEq, Int.reduceBNe, Int.reduceToNat, e0, e3, hl, d2]
      exact ⟨S', fun _ _ h => h, hK⟩
   ·have d1 : ¬ (k : Int) ≤ 60 := by omega
    simp -implicitDefEqProofs only [go_sem, ↓reduceIte, Nat.reduceEqDiff, Nat.reduceLT, Nat.reduceLeDiff, Nat.reduceAdd, Nat.reduceMul, Nat.reduceSub, reduceCtorEq, Nat.reduceMod, Nat.reduceBEq, Int.reduceBEq, Int.reduceBNe, Int.reduceToNat, hin, hlt, d1, e0, e3, e4]
    refine hQ _ _ _ ?_
    have hl : ¬ (l.length : Int) ≤ 60 := by omega
    unfold shortV at hK
    rw [show decide (l.length ≤ 60) = false by simp; omega, Bool.false_and] at hK
    simp -implicitDefEqProofs only [go_sem, ↓reduceIte, Nat.reduceEqDiff, Nat.reduceLT, Nat.reduceLeDiff, Nat.reduceAdd, Nat.reduceMul, Nat.reduceSub, reduceCtorEq, Nat.reduceMod, Nat.reduceBEq, Int.reduceBEq, Int.reduceBNe, Int.reduceToNat, e0, e3, hl]
    exact ⟨S', fun _ _ h => h, hK⟩
  ·have hcc : ¬ (k : Int) < l.length := by omega
   rw [List.drop_of_length_le (by omega), shortNv] at hr
   have hl : decide ((l.length : Int) ≤ 60) = decide (l.length ≤ 60) := by by_cases h : l.length ≤ 60 <;> simp [h] <;> omega
   unfold shortV at hK
   rw [hr] at hK
   simp -implicitDefEqProofs only [go_sem, ↓reduceIte, Nat.reduceEqDiff, Nat.reduceLT, Nat.reduceLeDiff, Nat.reduceAdd, Nat.reduceMul, Nat.reduceSub, reduceCtorEq, Nat.reduceMod, Nat.reduceBEq, Int.reduceBEq, Int.reduceBNe, Int.reduceToNat, hcc, e0, e4]
   refine hQ _ _ _ ?_
   by_cases h6 : l.length ≤ 60
   ·have h6i : (l.length : Int) ≤ 60 := by omega
    have h7 : decide ((n : Int) ≤ 16384) = decide (n ≤ 16384) := by by_cases h : n ≤ 16384 <;> simp [h] <;> omega
    rw [show decide (l.length ≤ 60) = true by simp [h6], Bool.true_and] at hK
    simp -implicitDefEqProofs only [go_sem, ↓reduceIte, Nat.reduceEqDiff, Nat.reduceLT, Nat.reduceLeDiff, Nat.reduceAdd, Nat.reduceMul, Nat.reduceSub, reduceCtorEq, Nat.reduceMod, Nat.reduceBEq, Int.reduceBEq, Int.reduceBNe, Int.reduceToNat, e0, e3, h6i, h7]
    exact ⟨S', fun _ _ h => h, hK⟩
   ·have h6i : ¬ (l.length : Int) ≤ 60 := by omega
    rw [show decide (l.length ≤ 60) = false by simp [h6], Bool.false_and] at hK
    simp -implicitDefEqProofs only [go_sem, ↓reduceIte, Nat.reduceEqDiff, Nat.reduceLT, Nat.reduceLeDiff, Nat.reduceAdd, Nat.reduceMul, Nat.reduceSub, reduceCtorEq, Nat.reduceMod, Nat.reduceBEq, Int.reduceBEq, Int.reduceBNe, Int.reduceToNat, e0, e3, h6i]
    exact ⟨S', fun _ _ h => h, hK⟩
end Go.Proofs.YtdioedabjaaboaaGreat.V
