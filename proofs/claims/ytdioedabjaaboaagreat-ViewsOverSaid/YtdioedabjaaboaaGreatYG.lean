/- Views: the document's sums. -/
import Derived.Test.YtdioedabjaaboaaGreatYF
set_option linter.unusedVariables false
set_option linter.unusedSimpArgs false
namespace Go.VL
/-- How many rows. -/
def rl : PV → Nat
 | .sl _ _ rows => rows.length
 | _ => 0
theorem rl_sl {f : Fl} {z : Nat} {rows : List (List PV)} : rl (.sl f z rows) = rows.length := rfl
attribute [go_sem] rl_sl
end Go.VL
namespace Go.Proofs.YtdioedabjaaboaaGreat.V
open Go Go.VL

def encJ (l : List Int) : List (List PV) := l.map fun x => [PV.int .i64 x]
@[go_sem] theorem len_encJ (l : List Int) : (encJ l).length = l.length := by simp [encJ]
theorem encJ_one (l : List Int) (x : Int) : encJ l ++ [[.int .i64 x]] = encJ (l ++ [x]) := by simp [encJ]
theorem getD_encJ {l : List Int} {k : Nat} {x : Int} (h : l[k]? = some x) : (encJ l).getD k [] = [.int .i64 x] := by
 simp [encJ, List.getD_eq_getElem?_getD, h]
theorem encJ_tl (l : List Int) : List.take l.length (encJ l) = encJ l := List.take_of_length_le (by rw [len_encJ]; exact Nat.le_refl _)
def in64 (x : Int) : Prop := -9223372036854775808 ≤ x ∧ x ≤ 9223372036854775807
instance (x : Int) : Decidable (in64 x) := by unfold in64; exact inferInstance
def addR (l : List Int) : Int × Bool := if in64 l.sum then (l.sum, true) else (0, false)
theorem sum_nn : ∀ {l : List Int}, (∀ x ∈ l, 0 ≤ x) → 0 ≤ l.sum
 | [], _ => Int.le_refl _
 | x :: l, h => by
  have h1 := h x List.mem_cons_self
  have h2 := sum_nn (l := l) fun y hy => h y (List.mem_cons_of_mem _ hy)
  rw [List.sum_cons]; omega
theorem sum_np : ∀ {l : List Int}, (∀ x ∈ l, x < 0) → l.sum ≤ 0
 | [], _ => Int.le_refl _
 | x :: l, h => by
  have h1 := h x List.mem_cons_self
  have h2 := sum_np (l := l) fun y hy => h y (List.mem_cons_of_mem _ hy)
  rw [List.sum_cons]; omega
theorem sum_snoc (l : List Int) (x : Int) : (l ++ [x]).sum = l.sum + x := by rw [List.sum_append]; simp
set_option maxHeartbeats 8000000 in
theorem RAdd_spec (l : List Int) (hl : l.length ≤ 1000000) (hr : ∀ x ∈ l, in64 x) (S : Store) : PRet Tryz.prog 49 [.sl .no 1 (encJ l)] S (.tup [.int .i64 (addR l).1, .bool (addR l).2]) := by
 intro K hK
 refine pcalls_of (C := C) (fun d => d == 17 || d == 21 || d == 5 || d == 4) (fun _ => false) Tryz.func49 rfl rfl (by simp [Tryz.f49]) ?_
 simp -implicitDefEqProofs only [go_sem, ↓reduceIte, Nat.reduceEqDiff, Nat.reduceLT, Nat.reduceLeDiff, Nat.reduceAdd, Nat.reduceMul, Nat.reduceSub, reduceCtorEq, Nat.reduceMod, Nat.reduceBEq, Int.reduceBEq, Int.reduceBNe, Int.reduceToNat, Tryz.f49]
 refine vloop (fun e S' => S' = S ∧ ∃ (k : Nat) (up down : List Int), k ≤ l.length ∧ l.sum = up.sum + down.sum + (l.drop k).sum ∧ (∀ x ∈ up, 0 ≤ x ∧ in64 x) ∧ (∀ x ∈ down, x < 0 ∧ in64 x) ∧ up.length + down.length = k ∧ e 4 = .sl .tail 1 (encJ up) ∧ e 5 = .sl .tail 1 (encJ down) ∧ e 9 = .sl .no 1 (encJ l) ∧ e 10 = .int .i64 l.length ∧ e 11 = .int .i64 k) (fun e _ => l.length - iv (e 11)) ?_ ?_
 ·exact ⟨rfl, 0, [], [], Nat.zero_le _, by simp, fun x h => (by cases h), fun x h => (by cases h), rfl, by simp -implicitDefEqProofs only [go_sem, ↓reduceIte, Nat.reduceEqDiff]; rfl, by simp -implicitDefEqProofs only [go_sem, ↓reduceIte, Nat.reduceEqDiff]; rfl, by simp -implicitDefEqProofs only [go_sem, ↓reduceIte, Nat.reduceEqDiff], by simp -implicitDefEqProofs only [go_sem, ↓reduceIte, Nat.reduceEqDiff], by simp -implicitDefEqProofs only [go_sem, ↓reduceIte, Nat.reduceEqDiff]⟩
 ·rintro J M Q' hJ hM hQ e S' ⟨rfl, k, up, down, hk, hs, hup, hdn, hlen, e4, e5, e9, e10, e11⟩
  by_cases hlt : k < l.length
  ·obtain ⟨x, hx⟩ : ∃ x, l[k]? = some x := ⟨l[k], List.getElem?_eq_getElem hlt⟩
   have hlti : (k : Int) < (l.length : Int) := by omega
   have h0 : (0 : Int) ≤ (k : Int) ∧ (k : Int) < (l.length : Int) := by omega
   have hw : IntKind.i64.wrap ((k : Int) + 1) = ((k + 1 : Nat) : Int) := wrap64 (by omega) (by omega)
   have hxr := hr x (List.mem_of_getElem? hx)
   rw [drop_cons hx, List.sum_cons] at hs
   have a1 : (up.length + 1) * 8 ≤ 140737488355328 ∧ up.length + 1 ≤ 140737488355328 := by omega
   have a2 : (down.length + 1) * 8 ≤ 140737488355328 ∧ down.length + 1 ≤ 140737488355328 := by omega
   by_cases hneg : x < 0
   ·simp -implicitDefEqProofs only [go_sem, ↓reduceIte, Nat.reduceEqDiff, Nat.reduceLT, Nat.reduceLeDiff, Nat.reduceAdd, Nat.reduceMul, Nat.reduceSub, reduceCtorEq, Nat.reduceMod, Nat.reduceBEq, Int.reduceBEq, Int.reduceBNe, Int.reduceToNat, e4, e5, e9, e10, e11, hlti, h0, Int.toNat_natCast, getD_encJ hx, hneg, a2, encJ_one, hw]
    refine vnext hJ hM S' (fun _ _ h => h) ⟨rfl, k + 1, up, down ++ [x], hlt, by rw [sum_snoc]; omega, hup, ?_, by rw [List.length_append, List.length_singleton]; omega, ?_, ?_, ?_, ?_, ?_⟩ ?_
    ·intro y hy
     rcases List.mem_append.1 hy with hy | hy
     ·exact hdn y hy
     ·rw [List.mem_singleton] at hy; subst hy; exact ⟨hneg, hxr⟩
    ·simp -implicitDefEqProofs only [go_sem, ↓reduceIte, Nat.reduceEqDiff, e4]
    ·simp -implicitDefEqProofs only [go_sem, ↓reduceIte, Nat.reduceEqDiff]
    ·simp -implicitDefEqProofs only [go_sem, ↓reduceIte, Nat.reduceEqDiff, e9]
    ·simp -implicitDefEqProofs only [go_sem, ↓reduceIte, Nat.reduceEqDiff, e10]
    ·simp -implicitDefEqProofs only [go_sem, ↓reduceIte, Nat.reduceEqDiff]
    ·simp -implicitDefEqProofs only [go_sem, ↓reduceIte, Nat.reduceEqDiff, e11, Int.toNat_natCast]
     omega
   ·simp -implicitDefEqProofs only [go_sem, ↓reduceIte, Nat.reduceEqDiff, Nat.reduceLT, Nat.reduceLeDiff, Nat.reduceAdd, Nat.reduceMul, Nat.reduceSub, reduceCtorEq, Nat.reduceMod, Nat.reduceBEq, Int.reduceBEq, Int.reduceBNe, Int.reduceToNat, e4, e5, e9, e10, e11, hlti, h0, Int.toNat_natCast, getD_encJ hx, hneg, a1, encJ_one, hw, Bool.false_eq_true]
    refine vnext hJ hM S' (fun _ _ h => h) ⟨rfl, k + 1, up ++ [x], down, hlt, by rw [sum_snoc]; omega, ?_, hdn, by rw [List.length_append, List.length_singleton]; omega, ?_, ?_, ?_, ?_, ?_⟩ ?_
    ·intro y hy
     rcases List.mem_append.1 hy with hy | hy
     ·exact hup y hy
     ·rw [List.mem_singleton] at hy; subst hy; exact ⟨by omega, hxr⟩
    ·simp -implicitDefEqProofs only [go_sem, ↓reduceIte, Nat.reduceEqDiff]
    ·simp -implicitDefEqProofs only [go_sem, ↓reduceIte, Nat.reduceEqDiff, e5]
    ·simp -implicitDefEqProofs only [go_sem, ↓reduceIte, Nat.reduceEqDiff, e9]
    ·simp -implicitDefEqProofs only [go_sem, ↓reduceIte, Nat.reduceEqDiff, e10]
    ·simp -implicitDefEqProofs only [go_sem, ↓reduceIte, Nat.reduceEqDiff]
    ·simp -implicitDefEqProofs only [go_sem, ↓reduceIte, Nat.reduceEqDiff, e11, Int.toNat_natCast]
     omega
  ·have hnl : ¬ (k : Int) < (l.length : Int) := by omega
   rw [List.drop_of_length_le (by omega), List.sum_nil] at hs
   simp -implicitDefEqProofs only [go_sem, ↓reduceIte, Nat.reduceEqDiff, Nat.reduceLT, Nat.reduceLeDiff, Nat.reduceAdd, Nat.reduceMul, Nat.reduceSub, reduceCtorEq, Nat.reduceMod, Nat.reduceBEq, Int.reduceBEq, Int.reduceBNe, Int.reduceToNat, e10, e11, hnl]
   refine hQ _ _ _ ?_
   simp -implicitDefEqProofs only [go_sem, ↓reduceIte, Nat.reduceEqDiff, Nat.reduceLT, Nat.reduceLeDiff, Nat.reduceAdd, Nat.reduceMul, Nat.reduceSub, reduceCtorEq, Nat.reduceMod, Nat.reduceBEq, Int.reduceBEq, Int.reduceBNe, Int.reduceToNat, e4, e5]
   refine vloop (fun e S'' => S'' = S' ∧ ∃ (f g : Fl) (up down : List Int) (s : Int), l.sum = s + up.sum + down.sum ∧ in64 s ∧ (∀ x ∈ up, 0 ≤ x ∧ in64 x) ∧ (∀ x ∈ down, x < 0 ∧ in64 x) ∧ up.length + down.length ≤ 1000000 ∧ e 4 = .sl f 1 (encJ up) ∧ e 5 = .sl g 1 (encJ down) ∧ e 8 = .int .i64 s) (fun e _ => rl (e 4) + rl (e 5)) ?_ ?_
   ·exact ⟨rfl, .tail, .tail, up, down, 0, by omega, by decide, hup, hdn, by omega, by simp -implicitDefEqProofs only [go_sem, ↓reduceIte, Nat.reduceEqDiff, e4], by simp -implicitDefEqProofs only [go_sem, ↓reduceIte, Nat.reduceEqDiff, e5], by simp -implicitDefEqProofs only [go_sem, ↓reduceIte, Nat.reduceEqDiff]⟩
   ·clear e4 e5 e9 e10 e11 hup hdn hs hlen hQ hM hJ
    rintro J2 M2 Q2 hJ2 hM2 hQ2 e2 S2 ⟨rfl, f, g, up, down, s, hs, hin, hup, hdn, hlen, e4, e5, e8⟩
    have w0 : IntKind.i64.wrap ((0 : Int) + 0) = 0 := rfl
    have i0 : ((0 : Int) == 0) = true := rfl
    have l00 : ¬ (0 : Int) < 0 := by decide
    have z0 : ∀ n : Nat, (0 : Int) ≤ 0 ∧ (0 : Int) < ((n + 1 : Nat) : Int) := fun n => by omega
    have z1 : ∀ n : Nat, (0 : Int) ≤ 1 ∧ (1 : Int) ≤ ((n + 1 : Nat) : Int) ∧ ((n + 1 : Nat) : Int) ≤ ((n + 1 : Nat) : Int) := fun n => by omega
    have nz : ∀ n : Nat, (((n + 1 : Nat) : Int) == 0) = false := fun n => beq_eq_false_iff_ne.2 (by omega)
    have pz : ∀ n : Nat, (0 : Int) < ((n + 1 : Nat) : Int) := fun n => by omega
    have t1 : (1 : Int).toNat = 1 := rfl
    have le00 : (0 : Int) ≤ 0 := by decide
    have le01 : (0 : Int) ≤ 1 := by decide
    have hfin : ∀ s' : Int, in64 s' → l.sum = s' → K (.tup [.int .i64 s', .bool true]) S2 := fun s' h1 h2 => by
     unfold addR at hK
     rw [h2, if_pos h1] at hK
     exact hK
    have hbad : ¬ in64 l.sum → K (.tup [.int .i64 0, .bool false]) S2 := fun h1 => by
     unfold addR at hK
     rw [if_neg h1] at hK
     exact hK
    match up, down, hs, hup, hdn, hlen, e4, e5 with
    | [], [], hs, hup, hdn, hlen, e4, e5 =>
     have e4' : e2 4 = .sl f 1 [] := e4
     have e5' : e2 5 = .sl g 1 [] := e5
     simp -implicitDefEqProofs only [go_sem, ↓reduceIte, Nat.reduceEqDiff, Nat.reduceLT, Nat.reduceLeDiff, Nat.reduceAdd, Nat.reduceMul, Nat.reduceSub, reduceCtorEq, Nat.reduceMod, Nat.reduceBEq, Int.reduceBEq, Int.reduceBNe, Int.reduceToNat, e4', e5', e8, w0, l00, List.length_nil]
     refine hQ2 _ _ _ ?_
     simp -implicitDefEqProofs only [go_sem, ↓reduceIte, Nat.reduceEqDiff, Nat.reduceLT, Nat.reduceLeDiff, Nat.reduceAdd, Nat.reduceMul, Nat.reduceSub, reduceCtorEq, Nat.reduceMod, Nat.reduceBEq, Int.reduceBEq, Int.reduceBNe, Int.reduceToNat, e8]
     exact ⟨S2, fun _ _ h => h, hfin s hin (by simpa using hs)⟩
    | u :: us, [], hs, hup, hdn, hlen, e4, e5 =>
     have e4' : e2 4 = .sl f 1 ([.int .i64 u] :: encJ us) := e4
     have hu := hup u List.mem_cons_self
     have hus : ∀ x ∈ us, 0 ≤ x ∧ in64 x := fun x hx => hup x (List.mem_cons_of_mem _ hx)
     have hnn := sum_nn (l := us) fun x hx => (hus x hx).1
     have e5' : e2 5 = .sl g 1 [] := e5
     simp only [List.length_cons, List.length_nil, List.sum_cons, List.sum_nil] at hs hlen
     unfold in64 at hin hu
     have w1 : IntKind.i64.wrap (((us.length + 1 : Nat) : Int) + 0) = ((us.length + 1 : Nat) : Int) := wrap64 (by omega) (by omega)
     by_cases hsp : 0 < s
     ·have w2 : IntKind.i64.wrap (9223372036854775807 - s) = 9223372036854775807 - s := wrap64 (by omega) (by omega)
      by_cases hov : 9223372036854775807 - s < u
      ·simp -implicitDefEqProofs only [go_sem, ↓reduceIte, Nat.reduceEqDiff, Nat.reduceLT, Nat.reduceLeDiff, Nat.reduceAdd, Nat.reduceMul, Nat.reduceSub, reduceCtorEq, Nat.reduceMod, Nat.reduceBEq, Int.reduceBEq, Int.reduceBNe, Int.reduceToNat, e4', e5', e8, w1, pz, hsp, w2, hov, i0, List.length_nil, List.length_cons, len_encJ, z0, z1, t1, le00, le01, Nat.add_sub_cancel, encJ_tl, Int.toNat_natCast, Int.toNat_zero, List.getD_cons_zero, Bool.false_eq_true]
       refine hQ2 _ _ _ ?_
       simp -implicitDefEqProofs only [go_sem, ↓reduceIte, Nat.reduceEqDiff, Nat.reduceLT, Nat.reduceLeDiff, Nat.reduceAdd, Nat.reduceMul, Nat.reduceSub, reduceCtorEq, Nat.reduceMod, Nat.reduceBEq, Int.reduceBEq, Int.reduceBNe, Int.reduceToNat]
       exact ⟨S2, fun _ _ h => h, hbad (fun h => by unfold in64 at h; omega)⟩
      ·have w3 : IntKind.i64.wrap (s + u) = s + u := wrap64 (by omega) (by omega)
       simp -implicitDefEqProofs only [go_sem, ↓reduceIte, Nat.reduceEqDiff, Nat.reduceLT, Nat.reduceLeDiff, Nat.reduceAdd, Nat.reduceMul, Nat.reduceSub, reduceCtorEq, Nat.reduceMod, Nat.reduceBEq, Int.reduceBEq, Int.reduceBNe, Int.reduceToNat, e4', e5', e8, w1, pz, hsp, w2, hov, w3, i0, List.length_nil, List.length_cons, len_encJ, z0, z1, t1, le00, le01, Nat.add_sub_cancel, encJ_tl, Int.toNat_natCast, Int.toNat_zero, List.getD_cons_zero, Bool.false_eq_true]
       refine vnext hJ2 hM2 S2 (fun _ _ h => h) ⟨rfl, .no, g, us, [], s + u, by simp only [List.sum_cons, List.sum_nil]; omega, by unfold in64; omega, ?_, ?_, by simp only [List.length_cons, List.length_nil]; omega, ?_, ?_, ?_⟩ ?_
       ·first | exact hus | exact hup
       ·first | exact hds | exact hdn
       ·simp -implicitDefEqProofs only [go_sem, ↓reduceIte, Nat.reduceEqDiff, e4'] <;> rfl
       ·simp -implicitDefEqProofs only [go_sem, ↓reduceIte, Nat.reduceEqDiff, e5'] <;> rfl
       ·simp -implicitDefEqProofs only [go_sem, ↓reduceIte, Nat.reduceEqDiff]
       ·simp -implicitDefEqProofs only [go_sem, ↓reduceIte, Nat.reduceEqDiff, e4', e5', List.length_cons, List.length_nil, len_encJ]
        omega
     ·have w3 : IntKind.i64.wrap (s + u) = s + u := wrap64 (by omega) (by omega)
      simp -implicitDefEqProofs only [go_sem, ↓reduceIte, Nat.reduceEqDiff, Nat.reduceLT, Nat.reduceLeDiff, Nat.reduceAdd, Nat.reduceMul, Nat.reduceSub, reduceCtorEq, Nat.reduceMod, Nat.reduceBEq, Int.reduceBEq, Int.reduceBNe, Int.reduceToNat, e4', e5', e8, w1, pz, hsp, w3, i0, List.length_nil, List.length_cons, len_encJ, z0, z1, t1, le00, le01, Nat.add_sub_cancel, encJ_tl, Int.toNat_natCast, Int.toNat_zero, List.getD_cons_zero, Bool.false_eq_true]
      refine vnext hJ2 hM2 S2 (fun _ _ h => h) ⟨rfl, .no, g, us, [], s + u, by simp only [List.sum_cons, List.sum_nil]; omega, by unfold in64; omega, ?_, ?_, by simp only [List.length_cons, List.length_nil]; omega, ?_, ?_, ?_⟩ ?_
      ·first | exact hus | exact hup
      ·first | exact hds | exact hdn
      ·simp -implicitDefEqProofs only [go_sem, ↓reduceIte, Nat.reduceEqDiff, e4'] <;> rfl
      ·simp -implicitDefEqProofs only [go_sem, ↓reduceIte, Nat.reduceEqDiff, e5'] <;> rfl
      ·simp -implicitDefEqProofs only [go_sem, ↓reduceIte, Nat.reduceEqDiff]
      ·simp -implicitDefEqProofs only [go_sem, ↓reduceIte, Nat.reduceEqDiff, e4', e5', List.length_cons, List.length_nil, len_encJ]
       omega
    | [], d :: ds, hs, hup, hdn, hlen, e4, e5 =>
     have e4' : e2 4 = .sl f 1 [] := e4
     have e5' : e2 5 = .sl g 1 ([.int .i64 d] :: encJ ds) := e5
     have hd := hdn d List.mem_cons_self
     have hds : ∀ x ∈ ds, x < 0 ∧ in64 x := fun x hx => hdn x (List.mem_cons_of_mem _ hx)
     have hnp := sum_np (l := ds) fun x hx => (hds x hx).1
     simp only [List.length_cons, List.length_nil, List.sum_cons, List.sum_nil] at hs hlen
     unfold in64 at hin hd
     have w1 : IntKind.i64.wrap ((0 : Int) + ((ds.length + 1 : Nat) : Int)) = ((ds.length + 1 : Nat) : Int) := by rw [Int.zero_add]; exact wrap64 (by omega) (by omega)
     by_cases hsn : s < 0
     ·have w2 : IntKind.i64.wrap (-9223372036854775808 - s) = -9223372036854775808 - s := wrap64 (by omega) (by omega)
      by_cases hov : d < -9223372036854775808 - s
      ·simp -implicitDefEqProofs only [go_sem, ↓reduceIte, Nat.reduceEqDiff, Nat.reduceLT, Nat.reduceLeDiff, Nat.reduceAdd, Nat.reduceMul, Nat.reduceSub, reduceCtorEq, Nat.reduceMod, Nat.reduceBEq, Int.reduceBEq, Int.reduceBNe, Int.reduceToNat, e4', e5', e8, w1, pz, nz, l00, hsn, w2, hov, i0, List.length_nil, List.length_cons, len_encJ, z0, z1, t1, le00, le01, Nat.add_sub_cancel, encJ_tl, Int.toNat_natCast, Int.toNat_zero, List.getD_cons_zero, Bool.false_eq_true]
       refine hQ2 _ _ _ ?_
       simp -implicitDefEqProofs only [go_sem, ↓reduceIte, Nat.reduceEqDiff, Nat.reduceLT, Nat.reduceLeDiff, Nat.reduceAdd, Nat.reduceMul, Nat.reduceSub, reduceCtorEq, Nat.reduceMod, Nat.reduceBEq, Int.reduceBEq, Int.reduceBNe, Int.reduceToNat]
       exact ⟨S2, fun _ _ h => h, hbad (fun h => by unfold in64 at h; omega)⟩
      ·have w3 : IntKind.i64.wrap (s + d) = s + d := wrap64 (by omega) (by omega)
       simp -implicitDefEqProofs only [go_sem, ↓reduceIte, Nat.reduceEqDiff, Nat.reduceLT, Nat.reduceLeDiff, Nat.reduceAdd, Nat.reduceMul, Nat.reduceSub, reduceCtorEq, Nat.reduceMod, Nat.reduceBEq, Int.reduceBEq, Int.reduceBNe, Int.reduceToNat, e4', e5', e8, w1, pz, nz, l00, hsn, w2, hov, w3, i0, List.length_nil, List.length_cons, len_encJ, z0, z1, t1, le00, le01, Nat.add_sub_cancel, encJ_tl, Int.toNat_natCast, Int.toNat_zero, List.getD_cons_zero, Bool.false_eq_true]
       refine vnext hJ2 hM2 S2 (fun _ _ h => h) ⟨rfl, f, .no, [], ds, s + d, by simp only [List.sum_cons, List.sum_nil]; omega, by unfold in64; omega, ?_, ?_, by simp only [List.length_cons, List.length_nil]; omega, ?_, ?_, ?_⟩ ?_
       ·first | exact hus | exact hup
       ·first | exact hds | exact hdn
       ·simp -implicitDefEqProofs only [go_sem, ↓reduceIte, Nat.reduceEqDiff, e4'] <;> rfl
       ·simp -implicitDefEqProofs only [go_sem, ↓reduceIte, Nat.reduceEqDiff, e5'] <;> rfl
       ·simp -implicitDefEqProofs only [go_sem, ↓reduceIte, Nat.reduceEqDiff]
       ·simp -implicitDefEqProofs only [go_sem, ↓reduceIte, Nat.reduceEqDiff, e4', e5', List.length_cons, List.length_nil, len_encJ]
        omega
     ·have w3 : IntKind.i64.wrap (s + d) = s + d := wrap64 (by omega) (by omega)
      simp -implicitDefEqProofs only [go_sem, ↓reduceIte, Nat.reduceEqDiff, Nat.reduceLT, Nat.reduceLeDiff, Nat.reduceAdd, Nat.reduceMul, Nat.reduceSub, reduceCtorEq, Nat.reduceMod, Nat.reduceBEq, Int.reduceBEq, Int.reduceBNe, Int.reduceToNat, e4', e5', e8, w1, pz, nz, l00, hsn, w3, i0, List.length_nil, List.length_cons, len_encJ, z0, z1, t1, le00, le01, Nat.add_sub_cancel, encJ_tl, Int.toNat_natCast, Int.toNat_zero, List.getD_cons_zero, Bool.false_eq_true]
      refine vnext hJ2 hM2 S2 (fun _ _ h => h) ⟨rfl, f, .no, [], ds, s + d, by simp only [List.sum_cons, List.sum_nil]; omega, by unfold in64; omega, ?_, ?_, by simp only [List.length_cons, List.length_nil]; omega, ?_, ?_, ?_⟩ ?_
      ·first | exact hus | exact hup
      ·first | exact hds | exact hdn
      ·simp -implicitDefEqProofs only [go_sem, ↓reduceIte, Nat.reduceEqDiff, e4'] <;> rfl
      ·simp -implicitDefEqProofs only [go_sem, ↓reduceIte, Nat.reduceEqDiff, e5'] <;> rfl
      ·simp -implicitDefEqProofs only [go_sem, ↓reduceIte, Nat.reduceEqDiff]
      ·simp -implicitDefEqProofs only [go_sem, ↓reduceIte, Nat.reduceEqDiff, e4', e5', List.length_cons, List.length_nil, len_encJ]
       omega
    | u :: us, d :: ds, hs, hup, hdn, hlen, e4, e5 =>
     have e4' : e2 4 = .sl f 1 ([.int .i64 u] :: encJ us) := e4
     have hu := hup u List.mem_cons_self
     have hus : ∀ x ∈ us, 0 ≤ x ∧ in64 x := fun x hx => hup x (List.mem_cons_of_mem _ hx)
     have hnn := sum_nn (l := us) fun x hx => (hus x hx).1
     have e5' : e2 5 = .sl g 1 ([.int .i64 d] :: encJ ds) := e5
     have hd := hdn d List.mem_cons_self
     have hds : ∀ x ∈ ds, x < 0 ∧ in64 x := fun x hx => hdn x (List.mem_cons_of_mem _ hx)
     have hnp := sum_np (l := ds) fun x hx => (hds x hx).1
     simp only [List.length_cons, List.length_nil, List.sum_cons, List.sum_nil] at hs hlen
     unfold in64 at hin hu hd
     have w1 : IntKind.i64.wrap (((us.length + 1 : Nat) : Int) + ((ds.length + 1 : Nat) : Int)) = ((us.length + ds.length + 1 + 1 : Nat) : Int) := by rw [wrap64 (by omega) (by omega)]; omega
     by_cases hsn : s < 0
     ·have hsp : ¬ 0 < s := by omega
      have w3 : IntKind.i64.wrap (s + u) = s + u := wrap64 (by omega) (by omega)
      simp -implicitDefEqProofs only [go_sem, ↓reduceIte, Nat.reduceEqDiff, Nat.reduceLT, Nat.reduceLeDiff, Nat.reduceAdd, Nat.reduceMul, Nat.reduceSub, reduceCtorEq, Nat.reduceMod, Nat.reduceBEq, Int.reduceBEq, Int.reduceBNe, Int.reduceToNat, e4', e5', e8, w1, pz, nz, hsn, hsp, w3, i0, List.length_nil, List.length_cons, len_encJ, z0, z1, t1, le00, le01, Nat.add_sub_cancel, encJ_tl, Int.toNat_natCast, Int.toNat_zero, List.getD_cons_zero, Bool.false_eq_true]
      refine vnext hJ2 hM2 S2 (fun _ _ h => h) ⟨rfl, .no, g, us, d :: ds, s + u, by simp only [List.sum_cons, List.sum_nil]; omega, by unfold in64; omega, ?_, ?_, by simp only [List.length_cons, List.length_nil]; omega, ?_, ?_, ?_⟩ ?_
      ·first | exact hus | exact hup
      ·first | exact hds | exact hdn
      ·simp -implicitDefEqProofs only [go_sem, ↓reduceIte, Nat.reduceEqDiff, e4'] <;> rfl
      ·simp -implicitDefEqProofs only [go_sem, ↓reduceIte, Nat.reduceEqDiff, e5'] <;> rfl
      ·simp -implicitDefEqProofs only [go_sem, ↓reduceIte, Nat.reduceEqDiff]
      ·simp -implicitDefEqProofs only [go_sem, ↓reduceIte, Nat.reduceEqDiff, e4', e5', List.length_cons, List.length_nil, len_encJ]
       omega
     ·have w3 : IntKind.i64.wrap (s + d) = s + d := wrap64 (by omega) (by omega)
      simp -implicitDefEqProofs only [go_sem, ↓reduceIte, Nat.reduceEqDiff, Nat.reduceLT, Nat.reduceLeDiff, Nat.reduceAdd, Nat.reduceMul, Nat.reduceSub, reduceCtorEq, Nat.reduceMod, Nat.reduceBEq, Int.reduceBEq, Int.reduceBNe, Int.reduceToNat, e4', e5', e8, w1, pz, nz, hsn, w3, i0, List.length_nil, List.length_cons, len_encJ, z0, z1, t1, le00, le01, Nat.add_sub_cancel, encJ_tl, Int.toNat_natCast, Int.toNat_zero, List.getD_cons_zero, Bool.false_eq_true]
      refine vnext hJ2 hM2 S2 (fun _ _ h => h) ⟨rfl, f, .no, u :: us, ds, s + d, by simp only [List.sum_cons, List.sum_nil]; omega, by unfold in64; omega, ?_, ?_, by simp only [List.length_cons, List.length_nil]; omega, ?_, ?_, ?_⟩ ?_
      ·first | exact hus | exact hup
      ·first | exact hds | exact hdn
      ·simp -implicitDefEqProofs only [go_sem, ↓reduceIte, Nat.reduceEqDiff, e4'] <;> rfl
      ·simp -implicitDefEqProofs only [go_sem, ↓reduceIte, Nat.reduceEqDiff, e5'] <;> rfl
      ·simp -implicitDefEqProofs only [go_sem, ↓reduceIte, Nat.reduceEqDiff]
      ·simp -implicitDefEqProofs only [go_sem, ↓reduceIte, Nat.reduceEqDiff, e4', e5', List.length_cons, List.length_nil, len_encJ]
       omega
end Go.Proofs.YtdioedabjaaboaaGreat.V
