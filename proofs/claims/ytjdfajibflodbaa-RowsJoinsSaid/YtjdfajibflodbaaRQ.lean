/- Rows: entries whose bytes are one's own, joined. -/
import Derived.Test.YtjdfajibflodbaaRZ
import Derived.Test.YtjdfajibflodbaaRJ
set_option linter.unusedVariables false
set_option linter.unusedSimpArgs false
namespace Go.Proofs.Ytjdfajibflodbaa.V
open Go Go.VL

def encOO (L : List (List (Nat × Ent))) : List (List PV) := L.map fun l => [.sl .no 3 (encO l)]
@[go_sem] theorem len_encOO (L : List (List (Nat × Ent))) : (encOO L).length = L.length := by simp [encOO]
theorem getD_encOO {L : List (List (Nat × Ent))} {k : Nat} {l : List (Nat × Ent)} (h : L[k]? = some l) : (encOO L).getD k [] = [.sl .no 3 (encO l)] := by
  simp [encOO, List.getD_eq_getElem?_getD, h]
def lensO : List (List (Nat × Ent)) → Nat
  | [] => 0
  | l :: L => l.length + lensO L
theorem lensO_app : ∀ (A B : List (List (Nat × Ent))), lensO (A ++ B) = lensO A + lensO B
  | [], B => by simp [lensO]
  | a :: A, B => by simp only [List.cons_append, lensO, lensO_app A B]; omega
theorem lensO_take (L : List (List (Nat × Ent))) (k : Nat) {l : List (Nat × Ent)} (h : L[k]? = some l) : lensO (L.take (k + 1)) = lensO (L.take k) + l.length := by
  rw [List.take_add_one, h, lensO_app]
  simp [lensO]
theorem lensO_le (L : List (List (Nat × Ent))) (k : Nat) : lensO (L.take k) ≤ lensO L := by
  conv => rhs; rw [← List.take_append_drop k L, lensO_app]
  omega
theorem lensO_flat : ∀ (L : List (List (Nat × Ent))), L.flatten.length = lensO L
  | [] => rfl
  | l :: L => by simp only [List.flatten_cons, List.length_append, lensO, lensO_flat L]
theorem flat_takeO (L : List (List (Nat × Ent))) (k : Nat) {l : List (Nat × Ent)} (h : L[k]? = some l) : (L.take (k + 1)).flatten = (L.take k).flatten ++ l := by
  rw [List.take_add_one, h]
  simp
theorem encO_app (a b : List (Nat × Ent)) : encO (a ++ b) = encO a ++ encO b := by simp [encO]

set_option maxHeartbeats 1000000 in
theorem concatO_spec (L : List (List (Nat × Ent))) (hL : L.length ≤ 1000) (hs : lensO L ≤ 3518437208883) (S : Store) : PRet Try.prog 42 [.sl .no 1 (encOO L)] S (.sl .tail 3 (encO L.flatten)) := by
  intro K hK
  refine pcalls_of (C := C) (fun d => d == 24 || d == 6 || d == 31 || d == 35 || d == 2) (fun _ => false) Try.func42 rfl rfl (by simp [Try.f42]) ?_
  simp -implicitDefEqProofs only [go_sem, ↓reduceIte, Nat.reduceEqDiff, Nat.reduceLT, Nat.reduceLeDiff, Nat.reduceAdd, Nat.reduceMul, Nat.reduceSub, reduceCtorEq, Nat.reduceMod, Nat.reduceBEq, Int.reduceBEq, Int.reduceBNe, Int.reduceToNat, Try.f42]
  refine vwp_loop (fun e S' => S' = S ∧ ∃ k : Nat, k ≤ L.length ∧ e 0 = .sl .no 1 (encOO L) ∧ e 9 = .sl .no 1 (encOO L) ∧ e 10 = .int .i64 L.length ∧ e 11 = .int .i64 k ∧ e 3 = .int .i64 (lensO (L.take k))) (fun e _ => match e 11 with | .int _ k => L.length - k.toNat | _ => 0) ?_ ?_
  · exact ⟨rfl, 0, Nat.zero_le _, rfl, rfl, rfl, rfl, rfl⟩
  · rintro e S' ⟨rfl, k, hk, h0, h9, h10, h11, h3⟩
    have hle := lensO_le L k
    simp -implicitDefEqProofs only [go_sem, ↓reduceIte, Nat.reduceEqDiff, Nat.reduceLT, Nat.reduceLeDiff, Nat.reduceAdd, Nat.reduceMul, Nat.reduceSub, reduceCtorEq, Nat.reduceMod, Nat.reduceBEq, Int.reduceBEq, Int.reduceBNe, Int.reduceToNat, h9, h10, h11]
    by_cases hlt : k < L.length
    · obtain ⟨x, hx⟩ : ∃ x, L[k]? = some x := ⟨_, List.getElem?_eq_getElem hlt⟩
      have hle2 := lensO_le L (k + 1)
      rw [lensO_take L k hx] at hle2
      have hin : (0 : Int) ≤ k ∧ (k : Int) < L.length := by omega
      have hw : IntKind.i64.wrap ((lensO (L.take k) : Int) + x.length) = ((lensO (L.take (k + 1)) : Nat) : Int) := by
        rw [lensO_take L k hx, wrap64 (by omega) (by omega)]; omega
      have hk1 : IntKind.i64.wrap ((k : Int) + 1) = ((k + 1 : Nat) : Int) := wrap64 (by omega) (by omega)
      have hng : ¬ ((lensO (L.take (k + 1)) : Nat) : Int) < 0 := by omega
      simp -implicitDefEqProofs only [go_sem, ↓reduceIte, Nat.reduceEqDiff, Nat.reduceLT, Nat.reduceLeDiff, Nat.reduceAdd, Nat.reduceMul, Nat.reduceSub, reduceCtorEq, Nat.reduceMod, Nat.reduceBEq, Int.reduceBEq, Int.reduceBNe, Int.reduceToNat, hin, h9, h10, h11, h3, getD_encOO hx, hw, hng, hk1]
      refine ⟨S', fun _ _ h => h, ⟨rfl, k + 1, hlt, ?_, ?_, ?_, ?_, ?_⟩, ?_⟩
      · simp -implicitDefEqProofs only [go_sem, ↓reduceIte, Nat.reduceEqDiff, Nat.reduceLT, Nat.reduceLeDiff, Nat.reduceAdd, Nat.reduceMul, Nat.reduceSub, reduceCtorEq, Nat.reduceMod, Nat.reduceBEq, Int.reduceBEq, Int.reduceBNe, Int.reduceToNat, h0]
      · simp -implicitDefEqProofs only [go_sem, ↓reduceIte, Nat.reduceEqDiff, Nat.reduceLT, Nat.reduceLeDiff, Nat.reduceAdd, Nat.reduceMul, Nat.reduceSub, reduceCtorEq, Nat.reduceMod, Nat.reduceBEq, Int.reduceBEq, Int.reduceBNe, Int.reduceToNat, h9]
      · simp -implicitDefEqProofs only [go_sem, ↓reduceIte, Nat.reduceEqDiff, Nat.reduceLT, Nat.reduceLeDiff, Nat.reduceAdd, Nat.reduceMul, Nat.reduceSub, reduceCtorEq, Nat.reduceMod, Nat.reduceBEq, Int.reduceBEq, Int.reduceBNe, Int.reduceToNat, h10]
      · simp -implicitDefEqProofs only [go_sem, ↓reduceIte, Nat.reduceEqDiff, Nat.reduceLT, Nat.reduceLeDiff, Nat.reduceAdd, Nat.reduceMul, Nat.reduceSub, reduceCtorEq, Nat.reduceMod, Nat.reduceBEq, Int.reduceBEq, Int.reduceBNe, Int.reduceToNat]
      · simp -implicitDefEqProofs only [go_sem, ↓reduceIte, Nat.reduceEqDiff, Nat.reduceLT, Nat.reduceLeDiff, Nat.reduceAdd, Nat.reduceMul, Nat.reduceSub, reduceCtorEq, Nat.reduceMod, Nat.reduceBEq, Int.reduceBEq, Int.reduceBNe, Int.reduceToNat]
      · simp -implicitDefEqProofs only [go_sem, ↓reduceIte, Nat.reduceEqDiff, Nat.reduceLT, Nat.reduceLeDiff, Nat.reduceAdd, Nat.reduceMul, Nat.reduceSub, reduceCtorEq, Nat.reduceMod, Nat.reduceBEq, Int.reduceBEq, Int.reduceBNe, Int.reduceToNat]
        omega
    · have hc : ¬ (k : Int) < L.length := by omega
      simp -implicitDefEqProofs only [go_sem, ↓reduceIte, Nat.reduceEqDiff, Nat.reduceLT, Nat.reduceLeDiff, Nat.reduceAdd, Nat.reduceMul, Nat.reduceSub, reduceCtorEq, Nat.reduceMod, Nat.reduceBEq, Int.reduceBEq, Int.reduceBNe, Int.reduceToNat, hc, h3]
      rw [List.take_of_length_le (by omega)]
      refine ⟨by decide, grow_spec (lensO L) (by omega) _ _ ?_⟩
      simp -implicitDefEqProofs only [go_sem, ↓reduceIte, Nat.reduceEqDiff, Nat.reduceLT, Nat.reduceLeDiff, Nat.reduceAdd, Nat.reduceMul, Nat.reduceSub, reduceCtorEq, Nat.reduceMod, Nat.reduceBEq, Int.reduceBEq, Int.reduceBNe, Int.reduceToNat, h0]
      refine vwp_loop (fun e S2 => S2 = S' ∧ ∃ k : Nat, k ≤ L.length ∧ e 25 = .sl .no 1 (encOO L) ∧ e 26 = .int .i64 L.length ∧ e 27 = .int .i64 k ∧ e 6 = .sl .tail 3 (encO (L.take k).flatten)) (fun e _ => match e 27 with | .int _ k => L.length - k.toNat | _ => 0) ?_ ?_
      · exact ⟨rfl, 0, Nat.zero_le _, rfl, rfl, rfl, rfl⟩
      · rintro e S2 ⟨rfl, k, hk, h25, h26, h27, h6⟩
        have hle := lensO_le L k
        simp -implicitDefEqProofs only [go_sem, ↓reduceIte, Nat.reduceEqDiff, Nat.reduceLT, Nat.reduceLeDiff, Nat.reduceAdd, Nat.reduceMul, Nat.reduceSub, reduceCtorEq, Nat.reduceMod, Nat.reduceBEq, Int.reduceBEq, Int.reduceBNe, Int.reduceToNat, h25, h26, h27]
        by_cases hlt : k < L.length
        · obtain ⟨x, hx⟩ : ∃ x, L[k]? = some x := ⟨_, List.getElem?_eq_getElem hlt⟩
          have hle2 := lensO_le L (k + 1)
          rw [lensO_take L k hx] at hle2
          have hin : (0 : Int) ≤ k ∧ (k : Int) < L.length := by omega
          have hk1 : IntKind.i64.wrap ((k : Int) + 1) = ((k + 1 : Nat) : Int) := wrap64 (by omega) (by omega)
          have hap : ((L.take k).flatten.length + x.length) * 40 ≤ 140737488355328 ∧ (L.take k).flatten.length + x.length ≤ 140737488355328 := by
            rw [lensO_flat]; omega
          simp -implicitDefEqProofs only [go_sem, ↓reduceIte, Nat.reduceEqDiff, Nat.reduceLT, Nat.reduceLeDiff, Nat.reduceAdd, Nat.reduceMul, Nat.reduceSub, reduceCtorEq, Nat.reduceMod, Nat.reduceBEq, Int.reduceBEq, Int.reduceBNe, Int.reduceToNat, hin, h25, h26, h27, h6, getD_encOO hx, hap, hk1]
          refine ⟨S2, fun _ _ h => h, ⟨rfl, k + 1, hlt, ?_, ?_, ?_, ?_⟩, ?_⟩
          · simp -implicitDefEqProofs only [go_sem, ↓reduceIte, Nat.reduceEqDiff, Nat.reduceLT, Nat.reduceLeDiff, Nat.reduceAdd, Nat.reduceMul, Nat.reduceSub, reduceCtorEq, Nat.reduceMod, Nat.reduceBEq, Int.reduceBEq, Int.reduceBNe, Int.reduceToNat, h25]
          · simp -implicitDefEqProofs only [go_sem, ↓reduceIte, Nat.reduceEqDiff, Nat.reduceLT, Nat.reduceLeDiff, Nat.reduceAdd, Nat.reduceMul, Nat.reduceSub, reduceCtorEq, Nat.reduceMod, Nat.reduceBEq, Int.reduceBEq, Int.reduceBNe, Int.reduceToNat, h26]
          · simp -implicitDefEqProofs only [go_sem, ↓reduceIte, Nat.reduceEqDiff, Nat.reduceLT, Nat.reduceLeDiff, Nat.reduceAdd, Nat.reduceMul, Nat.reduceSub, reduceCtorEq, Nat.reduceMod, Nat.reduceBEq, Int.reduceBEq, Int.reduceBNe, Int.reduceToNat]
          · simp -implicitDefEqProofs only [go_sem, ↓reduceIte, Nat.reduceEqDiff, Nat.reduceLT, Nat.reduceLeDiff, Nat.reduceAdd, Nat.reduceMul, Nat.reduceSub, reduceCtorEq, Nat.reduceMod, Nat.reduceBEq, Int.reduceBEq, Int.reduceBNe, Int.reduceToNat]
            rw [flat_takeO L k hx, encO_app]
          · simp -implicitDefEqProofs only [go_sem, ↓reduceIte, Nat.reduceEqDiff, Nat.reduceLT, Nat.reduceLeDiff, Nat.reduceAdd, Nat.reduceMul, Nat.reduceSub, reduceCtorEq, Nat.reduceMod, Nat.reduceBEq, Int.reduceBEq, Int.reduceBNe, Int.reduceToNat]
            omega
        · have hc : ¬ (k : Int) < L.length := by omega
          simp -implicitDefEqProofs only [go_sem, ↓reduceIte, Nat.reduceEqDiff, Nat.reduceLT, Nat.reduceLeDiff, Nat.reduceAdd, Nat.reduceMul, Nat.reduceSub, reduceCtorEq, Nat.reduceMod, Nat.reduceBEq, Int.reduceBEq, Int.reduceBNe, Int.reduceToNat, hc, h6]
          rw [List.take_of_length_le (by omega)]
          exact ⟨S2, fun _ _ h => h, hK⟩

/-! ### copies of what is one's own -/
theorem cloneA_spec (f : Fl) (id : Nat) (d : List Int) (hd : d.length ≤ 140737488351232) (S : Store) (hS : S id = some (cellsD d)) : PRet Try.prog 37 [.arr f id 0 d.length 1] S (.sl .tail 1 (encD d)) := by
  intro K hK
  refine pcalls_of (C := C) (fun d => d == 2) (fun _ => false) Try.func37 rfl rfl (by simp [Try.f37]) ?_
  have har : arows (cellsD d) 0 d.length 1 = encD d := by
    apply List.ext_getElem?
    intro j
    simp only [arows, encD, List.getElem?_map]
    by_cases hj : j < d.length
    · rw [List.getElem?_range hj, List.getElem?_eq_getElem hj]
      simp only [Option.map_some, Nat.zero_add, Nat.mul_one]
      congr 1
      have : (cellsD d).drop j = .int .u8 d[j] :: (cellsD d).drop (j + 1) := by
        rw [List.drop_eq_getElem_cons (by rw [cellsD_len]; exact hj)]
        simp [cellsD]
      rw [this]
      rfl
    · rw [List.getElem?_eq_none (by simpa using hj), List.getElem?_eq_none (by simpa using hj)]
      rfl
  simp -implicitDefEqProofs only [go_sem, ↓reduceIte, Nat.reduceEqDiff, Nat.reduceLT, Nat.reduceLeDiff, Nat.reduceAdd, Nat.reduceMul, Nat.reduceSub, reduceCtorEq, Nat.reduceMod, Nat.reduceBEq, Int.reduceBEq, Int.reduceBNe, Int.reduceToNat, Try.f37]
  intro b hb
  cases b
  · simp -implicitDefEqProofs only [go_sem, ↓reduceIte, Nat.reduceEqDiff, Nat.reduceLT, Nat.reduceLeDiff, Nat.reduceAdd, Nat.reduceMul, Nat.reduceSub, reduceCtorEq, Nat.reduceMod, Nat.reduceBEq, Int.reduceBEq, Int.reduceBNe, Int.reduceToNat]
    have h1 : d.length * 1 ≤ 140737488355328 ∧ d.length ≤ 140737488355328 := by omega
    have h2 : d.length * 1 ≤ d.length := by omega
    simp -implicitDefEqProofs only [go_sem, ↓reduceIte, Nat.reduceEqDiff, Nat.reduceLT, Nat.reduceLeDiff, Nat.reduceAdd, Nat.reduceMul, Nat.reduceSub, reduceCtorEq, Nat.reduceMod, Nat.reduceBEq, Int.reduceBEq, Int.reduceBNe, Int.reduceToNat, hS, h1, h2, har]
    exact ⟨S, fun _ _ h => h, hK⟩
  · have h0 := hb rfl
    have hl0 : d = [] := List.eq_nil_of_length_eq_zero h0
    subst hl0
    simp -implicitDefEqProofs only [go_sem, ↓reduceIte, Nat.reduceEqDiff, Nat.reduceLT, Nat.reduceLeDiff, Nat.reduceAdd, Nat.reduceMul, Nat.reduceSub, reduceCtorEq, Nat.reduceMod, Nat.reduceBEq, Int.reduceBEq, Int.reduceBNe, Int.reduceToNat]
    exact ⟨S, fun _ _ h => h, hK⟩

theorem ownA_spec (ps : List (Nat × Ent)) (hl : ps.length ≤ 100000) (hd : ∀ p ∈ ps, p.2.d.length ≤ 140737488351232) (S : Store) (hS : ∀ p ∈ ps, S p.1 = some (cellsD p.2.d)) : PRet Try.prog 38 [.sl .no 3 (encO ps)] S (.sl .tail 3 (encL (ps.map (·.2)))) := by
  intro K hK
  refine pcalls_of (C := C) (fun d => d == 16 || d == 3 || d == 21 || d == 2) (fun d => d == 5) Try.func38 rfl rfl (by simp [Try.f38]) ?_
  simp -implicitDefEqProofs only [go_sem, ↓reduceIte, Nat.reduceEqDiff, Nat.reduceLT, Nat.reduceLeDiff, Nat.reduceAdd, Nat.reduceMul, Nat.reduceSub, reduceCtorEq, Nat.reduceMod, Nat.reduceBEq, Int.reduceBEq, Int.reduceBNe, Int.reduceToNat, Try.f38]
  refine vloop (fun e S' => S' = S ∧ ∃ k : Nat, k ≤ ps.length ∧ e 6 = .sl .no 3 (encO ps) ∧ e 7 = .int .i64 ps.length ∧ e 8 = .int .i64 k ∧ e 3 = .sl .tail 3 (encL ((ps.take k).map (·.2)))) (fun e _ => ps.length - iv (e 8)) ?_ ?_
  · exact ⟨rfl, 0, Nat.zero_le _, rfl, rfl, rfl, by simp -implicitDefEqProofs only [go_sem, ↓reduceIte, Nat.reduceEqDiff, Nat.reduceLT, Nat.reduceLeDiff, Nat.reduceAdd, Nat.reduceMul, Nat.reduceSub, reduceCtorEq, Nat.reduceMod, Nat.reduceBEq, Int.reduceBEq, Int.reduceBNe, Int.reduceToNat, List.take_zero, encL]⟩
  · rintro J M Q' hJ hM hQ e S' ⟨rfl, k, hk, h6, h7, h8, h3⟩
    simp -implicitDefEqProofs only [go_sem, ↓reduceIte, Nat.reduceEqDiff, Nat.reduceLT, Nat.reduceLeDiff, Nat.reduceAdd, Nat.reduceMul, Nat.reduceSub, reduceCtorEq, Nat.reduceMod, Nat.reduceBEq, Int.reduceBEq, Int.reduceBNe, Int.reduceToNat, h6, h7, h8]
    by_cases hlt : k < ps.length
    · obtain ⟨p, hp⟩ : ∃ p, ps[k]? = some p := ⟨_, List.getElem?_eq_getElem hlt⟩
      have hin : (0 : Int) ≤ k ∧ (k : Int) < ps.length := by omega
      have hpm := List.mem_of_getElem? hp
      have hgo : (encO ps).getD k [] = [.int .i64 p.2.i, .int .i64 p.2.t, .arr .no p.1 0 p.2.d.length 1] := by
        simp [encO, List.getD_eq_getElem?_getD, hp]
      simp -implicitDefEqProofs only [go_sem, ↓reduceIte, Nat.reduceEqDiff, Nat.reduceLT, Nat.reduceLeDiff, Nat.reduceAdd, Nat.reduceMul, Nat.reduceSub, reduceCtorEq, Nat.reduceMod, Nat.reduceBEq, Int.reduceBEq, Int.reduceBNe, Int.reduceToNat, hin, h6, h7, h8, hgo]
      intro id hid
      refine cloneA_spec .no p.1 p.2.d (hd p hpm) _ ?_ _ ?_
      · simp only [Store.set]
        rw [if_neg (fun e => by have := hS p hpm; rw [e, hid] at this; cases this)]
        exact hS p hpm
      have hmin : ((ps.take k).map (·.2)).length = k := by rw [List.length_map, List.length_take]; omega
      have hk1 : IntKind.i64.wrap ((k : Int) + 1) = ((k + 1 : Nat) : Int) := wrap64 (by omega) (by omega)
      have hap : (k + 1) * 40 ≤ 140737488355328 ∧ k + 1 ≤ 140737488355328 := by omega
      simp -implicitDefEqProofs only [go_sem, ↓reduceIte, Nat.reduceEqDiff, Nat.reduceLT, Nat.reduceLeDiff, Nat.reduceAdd, Nat.reduceMul, Nat.reduceSub, reduceCtorEq, Nat.reduceMod, Nat.reduceBEq, Int.reduceBEq, Int.reduceBNe, Int.reduceToNat, h3, hmin, hap, h8, hk1]
      refine vnext hJ hM S' (set_drop hid (fun _ _ h => h)) ⟨rfl, k + 1, hlt, ?_, ?_, ?_, ?_⟩ ?_
      · simp -implicitDefEqProofs only [go_sem, ↓reduceIte, Nat.reduceEqDiff, Nat.reduceLT, Nat.reduceLeDiff, Nat.reduceAdd, Nat.reduceMul, Nat.reduceSub, reduceCtorEq, Nat.reduceMod, Nat.reduceBEq, Int.reduceBEq, Int.reduceBNe, Int.reduceToNat, h6]
      · simp -implicitDefEqProofs only [go_sem, ↓reduceIte, Nat.reduceEqDiff, Nat.reduceLT, Nat.reduceLeDiff, Nat.reduceAdd, Nat.reduceMul, Nat.reduceSub, reduceCtorEq, Nat.reduceMod, Nat.reduceBEq, Int.reduceBEq, Int.reduceBNe, Int.reduceToNat, h7]
      · simp -implicitDefEqProofs only [go_sem, ↓reduceIte, Nat.reduceEqDiff, Nat.reduceLT, Nat.reduceLeDiff, Nat.reduceAdd, Nat.reduceMul, Nat.reduceSub, reduceCtorEq, Nat.reduceMod, Nat.reduceBEq, Int.reduceBEq, Int.reduceBNe, Int.reduceToNat]
      · simp -implicitDefEqProofs only [go_sem, ↓reduceIte, Nat.reduceEqDiff, Nat.reduceLT, Nat.reduceLeDiff, Nat.reduceAdd, Nat.reduceMul, Nat.reduceSub, reduceCtorEq, Nat.reduceMod, Nat.reduceBEq, Int.reduceBEq, Int.reduceBNe, Int.reduceToNat]
        rw [List.take_add_one, hp]
        simp [encL, encE]
      · simp -implicitDefEqProofs only [go_sem, ↓reduceIte, Nat.reduceEqDiff, Nat.reduceLT, Nat.reduceLeDiff, Nat.reduceAdd, Nat.reduceMul, Nat.reduceSub, reduceCtorEq, Nat.reduceMod, Nat.reduceBEq, Int.reduceBEq, Int.reduceBNe, Int.reduceToNat]
        omega
    · have hc : ¬ (k : Int) < ps.length := by omega
      simp -implicitDefEqProofs only [go_sem, ↓reduceIte, Nat.reduceEqDiff, Nat.reduceLT, Nat.reduceLeDiff, Nat.reduceAdd, Nat.reduceMul, Nat.reduceSub, reduceCtorEq, Nat.reduceMod, Nat.reduceBEq, Int.reduceBEq, Int.reduceBNe, Int.reduceToNat, hc]
      refine hQ _ _ _ ?_
      simp -implicitDefEqProofs only [go_sem, ↓reduceIte, Nat.reduceEqDiff, Nat.reduceLT, Nat.reduceLeDiff, Nat.reduceAdd, Nat.reduceMul, Nat.reduceSub, reduceCtorEq, Nat.reduceMod, Nat.reduceBEq, Int.reduceBEq, Int.reduceBNe, Int.reduceToNat, h3]
      rw [List.take_of_length_le (by omega)]
      exact ⟨S', fun _ _ h => h, hK⟩
end Go.Proofs.Ytjdfajibflodbaa.V
