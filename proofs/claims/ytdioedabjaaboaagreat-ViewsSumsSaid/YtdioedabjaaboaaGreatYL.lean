/- Views: sums of any numbers. -/
import Derived.Test.YtdioedabjaaboaaGreatYJ
set_option linter.unusedVariables false
set_option linter.unusedSimpArgs false
namespace Go.Proofs.YtdioedabjaaboaaGreat.V
open Go Go.VL

theorem cloneO_spec (T : List KO) (hT : T.length ≤ 1000000) (S : Store) : PRet Tryz.prog 14 [.sl .no 3 (encOs T)] S (.sl .tail 3 (encOs T)) := by
  intro K hK
  refine pcalls_of (C := C) (fun d => d == 2) (fun _ => false) Tryz.func14 rfl rfl (by simp [Tryz.f14]) ?_
  have hap : (T.length) * 40 ≤ 140737488355328 ∧ T.length ≤ 140737488355328 := by omega
  simp -implicitDefEqProofs only [go_sem, ↓reduceIte, Nat.reduceEqDiff, Nat.reduceLT, Nat.reduceLeDiff, Nat.reduceAdd, Nat.reduceMul, Nat.reduceSub, reduceCtorEq, Nat.reduceMod, Nat.reduceBEq, Int.reduceBEq, Int.reduceBNe, Int.reduceToNat, Tryz.f14]
  intro b hb
  cases b
  · simp -implicitDefEqProofs only [go_sem, ↓reduceIte, Nat.reduceEqDiff, Nat.reduceLT, Nat.reduceLeDiff, Nat.reduceAdd, Nat.reduceMul, Nat.reduceSub, reduceCtorEq, Nat.reduceMod, Nat.reduceBEq, Int.reduceBEq, Int.reduceBNe, Int.reduceToNat, List.length_nil, Nat.zero_add, hap, List.nil_append]
    exact ⟨S, fun _ _ h => h, hK⟩
  · simp -implicitDefEqProofs only [go_sem, ↓reduceIte, Nat.reduceEqDiff, Nat.reduceLT, Nat.reduceLeDiff, Nat.reduceAdd, Nat.reduceMul, Nat.reduceSub, reduceCtorEq, Nat.reduceMod, Nat.reduceBEq, Int.reduceBEq, Int.reduceBNe, Int.reduceToNat]
    have he : T = [] := by
      have := hb rfl
      cases T with
      | nil => rfl
      | cons t T => simp [encOs] at this
    subst he
    exact ⟨S, fun _ _ h => h, hK⟩
/-- The keys and values of the law's pairs. -/
def kkN (i : Nat) : ByteArray := ⟨#[107]⟩ ++ bsOf [((97 + i : Nat) : Int)]
def vvN (s : ByteArray) : ByteArray := ⟨#[97, 58, 120, 32, 110, 58]⟩ ++ s
theorem kk_nodup : ((List.range 24).map kkN).Nodup := by decide +kernel
def prN (i : Nat) : List ByteArray → List Pr
  | [] => []
  | s :: l => (kkN i, vvN s) :: prN (i + 1) l
theorem prN_keys : ∀ (l : List ByteArray) (i : Nat), (prN i l).map Prod.fst = (List.range' i l.length).map kkN
  | [], i => rfl
  | s :: l, i => by
    rw [prN, List.map_cons, prN_keys l (i + 1), List.length_cons, List.range'_succ, List.map_cons]
theorem prN_len : ∀ (l : List ByteArray) (i : Nat), (prN i l).length = l.length
  | [], i => rfl
  | s :: l, i => by rw [prN, List.length_cons, prN_len l (i + 1), List.length_cons]
theorem prN_app : ∀ (l : List ByteArray) (s : ByteArray) (i : Nat), prN i (l ++ [s]) = prN i l ++ [(kkN (i + l.length), vvN s)]
  | [], s, i => rfl
  | a :: l, s, i => by
    rw [List.cons_append, prN, prN_app l s (i + 1), prN, List.cons_append, List.length_cons]
    rw [show i + 1 + l.length = i + (l.length + 1) by omega]
theorem prN_nodup {l : List ByteArray} (h : l.length ≤ 24) : ((prN 0 l).map Prod.fst).Nodup := by
  rw [prN_keys, ← List.range_eq_range']
  have hs : (List.range l.length).Sublist (List.range 24) := List.range_sublist.2 h
  exact (hs.map kkN).nodup kk_nodup
theorem prN_fit : ∀ (l : List ByteArray) (i : Nat), i + l.length ≤ 24 → (∀ s ∈ l, s.size ≤ 21) → FitK (prN i l)
  | [], i, _, _ => fun p hp => by cases hp
  | s :: l, i, h, hs => by
    intro p hp
    rw [List.length_cons] at h
    rcases List.mem_cons.1 hp with rfl | hp
    · have h1 := hs s List.mem_cons_self
      refine ⟨?_, ?_⟩
      · show (⟨#[107]⟩ ++ bsOf _ : ByteArray).size ≤ _
        rw [ByteArray.size_append]
        exact Nat.le_trans (Nat.add_le_add_left (show (bsOf [((97 + i : Nat) : Int)]).size ≤ 1 from Nat.le_refl _) _) (by decide)
      · show (⟨#[97, 58, 120, 32, 110, 58]⟩ ++ s : ByteArray).size ≤ _
        rw [ByteArray.size_append]
        exact Nat.le_trans (Nat.add_le_add_left h1 _) (by decide)
    · exact prN_fit l (i + 1) (by omega) (fun x hx => hs x (List.mem_cons_of_mem _ hx)) p hp
set_option maxHeartbeats 8000000 in
theorem sums_law (numbers : List ByteArray) (turn : Int) (hl : numbers.length ≤ 140737488355328) (S : Store) (K : PV → Store → Prop) (hK : ∀ S', K (.bool true) S') : PCalls Tryz.prog 3 [.sl .no 1 (encS numbers), .int .i64 turn] S K := by
  refine pcalls_of (C := C) (fun d => d == 26 || d == 5) (fun _ => false) Tryz.func3 rfl rfl (by simp [Tryz.f3]) ?_
  obtain ⟨n, hn⟩ : ∃ n : Nat, n = min numbers.length 24 := ⟨_, rfl⟩
  have hmin : (if (24 : Int) < (numbers.length : Int) then (24 : Int) else (numbers.length : Int)) = (n : Int) := by split <;> omega
  simp -implicitDefEqProofs only [go_sem, ↓reduceIte, Nat.reduceEqDiff, Nat.reduceLT, Nat.reduceLeDiff, Nat.reduceAdd, Nat.reduceMul, Nat.reduceSub, reduceCtorEq, Nat.reduceMod, Nat.reduceBEq, Int.reduceBEq, Int.reduceBNe, Int.reduceToNat, Tryz.f3, hmin]
  refine vloop (fun e S' => S' = S ∧ ∃ k : Nat, k ≤ n ∧ (∀ s ∈ numbers.take k, s.size ≤ 21) ∧ e 0 = .sl .no 1 (encS numbers) ∧ e 1 = .int .i64 turn ∧ e 5 = .sl .tail 3 (encOs ((prN 0 (numbers.take k)).map kOf)) ∧ e 15 = .int .i64 n ∧ e 16 = .int .i64 k) (fun e _ => n - iv (e 16)) ?_ ?_
  · exact ⟨rfl, 0, Nat.zero_le _, fun s h => (by cases h), by simp -implicitDefEqProofs only [go_sem, ↓reduceIte, Nat.reduceEqDiff], by simp -implicitDefEqProofs only [go_sem, ↓reduceIte, Nat.reduceEqDiff], by simp -implicitDefEqProofs only [go_sem, ↓reduceIte, Nat.reduceEqDiff]; rfl, by simp -implicitDefEqProofs only [go_sem, ↓reduceIte, Nat.reduceEqDiff, hmin], by simp -implicitDefEqProofs only [go_sem, ↓reduceIte, Nat.reduceEqDiff]⟩
  · rintro J M Q' hJ hM hQ e S' ⟨rfl, k, hk, hsz, e0, e1, e5, e15, e16⟩
    by_cases hlt : k < n
    · obtain ⟨s, hs⟩ : ∃ s, numbers[k]? = some s := ⟨numbers[k]'(by omega), List.getElem?_eq_getElem _⟩
      have hlti : (k : Int) < (n : Int) := by omega
      have h1 : (0 : Int) ≤ (k : Int) ∧ (k : Int) < (numbers.length : Int) := by omega
      have hw1 : IntKind.i64.wrap ((k : Int) + 1) = ((k + 1 : Nat) : Int) := wrap64 (by omega) (by omega)
      by_cases hbig : (21 : Int) < (s.size : Int)
      · simp -implicitDefEqProofs only [go_sem, ↓reduceIte, Nat.reduceEqDiff, Nat.reduceLT, Nat.reduceLeDiff, Nat.reduceAdd, Nat.reduceMul, Nat.reduceSub, reduceCtorEq, Nat.reduceMod, Nat.reduceBEq, Int.reduceBEq, Int.reduceBNe, Int.reduceToNat, e0, e15, e16, hlti, h1, Int.toNat_natCast, getD_encS hs, hbig]
        refine aw_calls _ _ ?_
        intro S3
        simp -implicitDefEqProofs only [go_sem, ↓reduceIte, Nat.reduceEqDiff, Nat.reduceLT, Nat.reduceLeDiff, Nat.reduceAdd, Nat.reduceMul, Nat.reduceSub, reduceCtorEq, Nat.reduceMod, Nat.reduceBEq, Int.reduceBEq, Int.reduceBNe, Int.reduceToNat]
        refine hQ _ _ _ ?_
        simp -implicitDefEqProofs only [go_sem, ↓reduceIte, Nat.reduceEqDiff, Nat.reduceLT, Nat.reduceLeDiff, Nat.reduceAdd, Nat.reduceMul, Nat.reduceSub, reduceCtorEq, Nat.reduceMod, Nat.reduceBEq, Int.reduceBEq, Int.reduceBNe, Int.reduceToNat]
        exact ⟨S3, fun _ _ h => h, hK S3⟩
      have hw2 : IntKind.i64.wrap (97 + (k : Int)) = ((97 + k : Nat) : Int) := by rw [wrap64 (by omega) (by omega)]; omega
      have hw3 : IntKind.u8.wrap ((97 + k : Nat) : Int) = ((97 + k : Nat) : Int) := by rw [wrapu8 (by omega) (by omega)]
      have htk : numbers.take (k + 1) = numbers.take k ++ [s] := by rw [List.take_add_one, hs]; rfl
      have hlk : (numbers.take k).length = k := by rw [List.length_take]; omega
      have hpl : (prN 0 (numbers.take k)).length = k := by rw [prN_len, hlk]
      have hap : (k + 1) * 40 ≤ 140737488355328 ∧ k ≤ 140737488355327 := by omega
      have hpp : (prN 0 (numbers.take (k + 1))) = prN 0 (numbers.take k) ++ [(kkN k, vvN s)] := by rw [htk, prN_app, hlk, Nat.zero_add]
      have hsz' : ∀ x ∈ numbers.take (k + 1), x.size ≤ 21 := fun x hx => by
        rw [htk] at hx
        rcases List.mem_append.1 hx with hx | hx
        · exact hsz x hx
        · rw [List.mem_singleton] at hx; subst hx; omega
      simp -implicitDefEqProofs only [go_sem, ↓reduceIte, Nat.reduceEqDiff, Nat.reduceLT, Nat.reduceLeDiff, Nat.reduceAdd, Nat.reduceMul, Nat.reduceSub, reduceCtorEq, Nat.reduceMod, Nat.reduceBEq, Int.reduceBEq, Int.reduceBNe, Int.reduceToNat, e0, e15, e16, hlti, h1, Int.toNat_natCast, getD_encS hs, hbig, Bool.false_eq_true]
      have hpb : ∀ x : Int, pbs [[PV.int .u8 x]] = some [x] := fun _ => rfl
      have ha1 : (⟨#[107]⟩ : ByteArray).size + (bsOf [((97 + k : Nat) : Int)]).size ≤ 9223372036854775807 := show 1 + 1 ≤ _ by decide
      have ha2 : (⟨#[97, 58, 120, 32, 110, 58]⟩ : ByteArray).size + s.size ≤ 9223372036854775807 := by
        have : (⟨#[97, 58, 120, 32, 110, 58]⟩ : ByteArray).size = 6 := rfl
        omega
      have hb1 : pbin .add (.str ⟨#[107]⟩) (.str (bsOf [((97 + k : Nat) : Int)])) = some (.str (kkN k)) := x_pb_sadd ha1
      have hb2 : pbin .add (.str ⟨#[97, 58, 120, 32, 110, 58]⟩) (.str s) = some (.str (vvN s)) := x_pb_sadd ha2
      refine vwp_draw (by decide +kernel) ?_
      simp -implicitDefEqProofs only [go_sem, ↓reduceIte, Nat.reduceEqDiff, Nat.reduceLT, Nat.reduceLeDiff, Nat.reduceAdd, Nat.reduceMul, Nat.reduceSub, reduceCtorEq, Nat.reduceMod, Nat.reduceBEq, Int.reduceBEq, Int.reduceBNe, Int.reduceToNat, e0, e5, e16, h1, Int.toNat_natCast, getD_encS hs, hw2, hw3, hpb, Option.map_some, hb1, hb2]
      refine q_call _ (by simp -implicitDefEqProofs only [go_sem, ↓reduceIte, Nat.reduceEqDiff]; exact vput_spec (kkN k) (vvN s) _) (by decide) rfl ?_
      have hone : ∀ P : List Pr, encOs (P.map kOf) ++ [[PV.str (kkN k), .bool true, .str (vvN s)]] = encOs ((P ++ [(kkN k, vvN s)]).map kOf) := fun P => by
        unfold encOs; rw [List.map_append, List.map_append]; rfl
      simp -implicitDefEqProofs only [go_sem, ↓reduceIte, Nat.reduceEqDiff, Nat.reduceLT, Nat.reduceLeDiff, Nat.reduceAdd, Nat.reduceMul, Nat.reduceSub, reduceCtorEq, Nat.reduceMod, Nat.reduceBEq, Int.reduceBEq, Int.reduceBNe, Int.reduceToNat, List.length_map, hpl, hap, e16, hw1, hone, ← hpp]
      refine vnext hJ hM S' (fun _ _ h => h) ⟨rfl, k + 1, hlt, hsz', ?_, ?_, ?_, ?_, ?_⟩ ?_
      · simp -implicitDefEqProofs only [go_sem, ↓reduceIte, Nat.reduceEqDiff, e0]
      · simp -implicitDefEqProofs only [go_sem, ↓reduceIte, Nat.reduceEqDiff, e1]
      · simp -implicitDefEqProofs only [go_sem, ↓reduceIte, Nat.reduceEqDiff]
      · simp -implicitDefEqProofs only [go_sem, ↓reduceIte, Nat.reduceEqDiff, e15]
      · simp -implicitDefEqProofs only [go_sem, ↓reduceIte, Nat.reduceEqDiff]
      · simp -implicitDefEqProofs only [go_sem, ↓reduceIte, Nat.reduceEqDiff, e16, Int.toNat_natCast]
        omega
    · have hnl : ¬ (k : Int) < (n : Int) := by omega
      have hkn : k = n := by omega
      subst hkn
      obtain ⟨P, hP⟩ : ∃ P, P = prN 0 (numbers.take k) := ⟨_, rfl⟩
      have hlk : (numbers.take k).length = k := by rw [List.length_take]; omega
      have hpl : P.length = k := by rw [hP, prN_len, hlk]
      have hk24 : k ≤ 24 := by omega
      have hnd : (P.map Prod.fst).Nodup := by rw [hP]; exact prN_nodup (by omega)
      have hft : FitK P := by rw [hP]; exact prN_fit _ 0 (by omega) hsz
      have hLP : P.length ≤ 1000000 := by omega
      have hwS : FitW wS := by unfold FitW; decide
      rw [← hP] at e5
      simp -implicitDefEqProofs only [go_sem, ↓reduceIte, Nat.reduceEqDiff, Nat.reduceLT, Nat.reduceLeDiff, Nat.reduceAdd, Nat.reduceMul, Nat.reduceSub, reduceCtorEq, Nat.reduceMod, Nat.reduceBEq, Int.reduceBEq, Int.reduceBNe, Int.reduceToNat, e15, e16, hnl]
      refine hQ _ _ _ ?_
      simp -implicitDefEqProofs only [go_sem, ↓reduceIte, Nat.reduceEqDiff, Nat.reduceLT, Nat.reduceLeDiff, Nat.reduceAdd, Nat.reduceMul, Nat.reduceSub, reduceCtorEq, Nat.reduceMod, Nat.reduceBEq, Int.reduceBEq, Int.reduceBNe, Int.reduceToNat]
      refine vsum_spec _ _ ?_
      unfold encW
      simp -implicitDefEqProofs only [go_sem, ↓reduceIte, Nat.reduceEqDiff, Nat.reduceLT, Nat.reduceLeDiff, Nat.reduceAdd, Nat.reduceMul, Nat.reduceSub, reduceCtorEq, Nat.reduceMod, Nat.reduceBEq, Int.reduceBEq, Int.reduceBNe, Int.reduceToNat, e5]
      refine VOf_calls wS P hLP hft hnd _ _ ?_
      intro S2 hs2
      unfold encOf
      simp -implicitDefEqProofs only [go_sem, ↓reduceIte, Nat.reduceEqDiff, Nat.reduceLT, Nat.reduceLeDiff, Nat.reduceAdd, Nat.reduceMul, Nat.reduceSub, reduceCtorEq, Nat.reduceMod, Nat.reduceBEq, Int.reduceBEq, Int.reduceBNe, Int.reduceToNat]
      refine vsum_spec _ _ ?_
      unfold encW
      simp -implicitDefEqProofs only [go_sem, ↓reduceIte, Nat.reduceEqDiff, Nat.reduceLT, Nat.reduceLeDiff, Nat.reduceAdd, Nat.reduceMul, Nat.reduceSub, reduceCtorEq, Nat.reduceMod, Nat.reduceBEq, Int.reduceBEq, Int.reduceBNe, Int.reduceToNat, e5]
      refine ROf_pv wS hwS P hLP hft hnd _ _ ?_
      unfold encOf
      obtain ⟨j, hj⟩ : ∃ j : Nat, j = ((IntKind.u64.wrap turn).tmod (k + 1)).toNat := ⟨_, rfl⟩
      have hu : 0 ≤ IntKind.u64.wrap turn := by
        have : IntKind.u64.wrap turn = turn % 18446744073709551616 := by simp [IntKind.wrap, IntKind.bits, IntKind.signed]
        rw [this]; omega
      have hw1 : IntKind.i64.wrap ((k : Int) + 1) = (k : Int) + 1 := wrap64 (by omega) (by omega)
      have hw2 : IntKind.u64.wrap ((k : Int) + 1) = (k : Int) + 1 := wrapu64 (by omega) (by omega)
      have hrem : pbin .rem (.int .u64 (IntKind.u64.wrap turn)) (.int .u64 ((k : Int) + 1)) = some (.int .u64 (j : Int)) := by
        unfold pbin
        dsimp only
        rw [if_pos ⟨rfl, by omega⟩, hj]
        have := Int.tmod_nonneg ((k : Int) + 1) hu
        rw [Int.toNat_of_nonneg this]
      have hjk : j ≤ k := by
        have h1 := Int.tmod_nonneg ((k : Int) + 1) hu
        have h2 := Int.tmod_lt_of_pos (IntKind.u64.wrap turn) (show (0 : Int) < (k : Int) + 1 by omega)
        omega
      have hw3 : IntKind.i64.wrap (j : Int) = (j : Int) := wrap64 (by omega) (by omega)
      simp -implicitDefEqProofs only [go_sem, ↓reduceIte, Nat.reduceEqDiff, Nat.reduceLT, Nat.reduceLeDiff, Nat.reduceAdd, Nat.reduceMul, Nat.reduceSub, reduceCtorEq, Nat.reduceMod, Nat.reduceBEq, Int.reduceBEq, Int.reduceBNe, Int.reduceToNat, e1, e5, List.length_map, hpl, hw1, hw2, hrem, hw3]
      refine vwp_mix (n := 12) (fun k => k == 9) (fun k => k == 9) [0, 1, 2, 3, 4, 5, 6, 7, 8, 9, 10, 11, 12, 13, 14] (by decide +kernel) ?_
      simp -implicitDefEqProofs only [go_sem, ↓reduceIte, Nat.reduceEqDiff, Nat.reduceLT, Nat.reduceLeDiff, Nat.reduceAdd, Nat.reduceMul, Nat.reduceSub, reduceCtorEq, Nat.reduceMod, Nat.reduceBEq, Int.reduceBEq, Int.reduceBNe, Int.reduceToNat]
      refine q_call _ (by simp -implicitDefEqProofs only [go_sem, ↓reduceIte, Nat.reduceEqDiff]; exact vsum_spec _) (by decide) rfl ?_
      unfold encW
      have hs1 : (0 : Int) ≤ (j : Int) ∧ (j : Int) ≤ (k : Int) ∧ (k : Int) ≤ (k : Int) := by omega
      have hs2 : (0 : Int) ≤ 0 ∧ (0 : Int) ≤ (j : Int) ∧ (j : Int) ≤ (k : Int) := by omega
      have hd1 : List.take (k - j) (List.drop j (encOs (P.map kOf))) = encOs ((P.drop j).map kOf) := by
        have : (encOs (P.map kOf)).length = k := by rw [len_encOs, List.length_map, hpl]
        rw [List.take_of_length_le (by rw [List.length_drop]; omega)]
        unfold encOs
        rw [List.map_drop, List.map_drop]
      have hd2 : List.take j (encOs (P.map kOf)) = encOs ((P.take j).map kOf) := by unfold encOs; rw [List.map_take, List.map_take]
      simp -implicitDefEqProofs only [go_sem, ↓reduceIte, Nat.reduceEqDiff, Nat.reduceLT, Nat.reduceLeDiff, Nat.reduceAdd, Nat.reduceMul, Nat.reduceSub, reduceCtorEq, Nat.reduceMod, Nat.reduceBEq, Int.reduceBEq, Int.reduceBNe, Int.reduceToNat, e5, List.length_map, hpl, hs1, hs2, Int.toNat_natCast, Int.toNat_zero, hd1, hd2]
      refine q_call _ (by simp -implicitDefEqProofs only [go_sem, ↓reduceIte, Nat.reduceEqDiff]; exact cloneO_spec ((P.drop j).map kOf) (by rw [List.length_map, List.length_drop]; omega) _) (by decide) rfl ?_
      simp -implicitDefEqProofs only [go_sem, ↓reduceIte, Nat.reduceEqDiff, Nat.reduceLT, Nat.reduceLeDiff, Nat.reduceAdd, Nat.reduceMul, Nat.reduceSub, reduceCtorEq, Nat.reduceMod, Nat.reduceBEq, Int.reduceBEq, Int.reduceBNe, Int.reduceToNat, e5, List.length_map, hpl, hs1, hs2, Int.toNat_natCast, Int.toNat_zero, hd1, hd2]
      obtain ⟨Q, hQd⟩ : ∃ Q, Q = P.drop j ++ P.take j := ⟨_, rfl⟩
      have hperm : Q.Perm P := by
        rw [hQd]
        have h1 := List.perm_append_comm (l₁ := P.drop j) (l₂ := P.take j)
        rw [List.take_append_drop] at h1
        exact h1
      have hcat : encOs ((P.drop j).map kOf) ++ encOs ((P.take j).map kOf) = encOs (Q.map kOf) := by
        rw [hQd]; unfold encOs; rw [List.map_append, List.map_append]
      have hQl : Q.length ≤ 1000000 := by rw [hperm.length_eq]; omega
      have hQf : FitK Q := fun p hp => hft p (hperm.mem_iff.1 hp)
      have hQn : (Q.map Prod.fst).Nodup := ((hperm.map Prod.fst).nodup_iff).2 hnd
      rw [hcat]
      refine ⟨by simp only [List.length_drop, List.length_take]; omega, ?_⟩
      refine VOf_calls wS Q hQl hQf hQn _ _ ?_
      rw [ofV_perm hperm]
      intro S3 hs3
      unfold encOf
      have hee : ∀ x : Int, (x == x) = true := fun x => by simp
      simp -implicitDefEqProofs only [go_sem, ↓reduceIte, Nat.reduceEqDiff, Nat.reduceLT, Nat.reduceLeDiff, Nat.reduceAdd, Nat.reduceMul, Nat.reduceSub, reduceCtorEq, Nat.reduceMod, Nat.reduceBEq, Int.reduceBEq, Int.reduceBNe, Int.reduceToNat]
      refine ⟨hs3, ?_⟩
      refine SameR_spec wS P hLP _ _ ?_
      simp -implicitDefEqProofs only [go_sem, ↓reduceIte, Nat.reduceEqDiff, Nat.reduceLT, Nat.reduceLeDiff, Nat.reduceAdd, Nat.reduceMul, Nat.reduceSub, reduceCtorEq, Nat.reduceMod, Nat.reduceBEq, Int.reduceBEq, Int.reduceBNe, Int.reduceToNat]
      refine SameR_spec wS P hLP _ _ ?_
      simp -implicitDefEqProofs only [go_sem, ↓reduceIte, Nat.reduceEqDiff, Nat.reduceLT, Nat.reduceLeDiff, Nat.reduceAdd, Nat.reduceMul, Nat.reduceSub, reduceCtorEq, Nat.reduceMod, Nat.reduceBEq, Int.reduceBEq, Int.reduceBNe, Int.reduceToNat, hee]
      refine aw_calls _ _ ?_
      intro S4
      simp -implicitDefEqProofs only [go_sem, ↓reduceIte, Nat.reduceEqDiff, Nat.reduceLT, Nat.reduceLeDiff, Nat.reduceAdd, Nat.reduceMul, Nat.reduceSub, reduceCtorEq, Nat.reduceMod, Nat.reduceBEq, Int.reduceBEq, Int.reduceBNe, Int.reduceToNat]
      exact ⟨S4, fun _ _ h => h, hK S4⟩
end Go.Proofs.YtdioedabjaaboaaGreat.V
