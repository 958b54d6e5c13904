/- Views: an index has as many keys as a count tells. -/
import Derived.Test.YtdioedabjaaboaaGreatYJ
set_option linter.unusedVariables false
set_option linter.unusedSimpArgs false
namespace Go.Proofs.YtdioedabjaaboaaGreat.V
open Go Go.VL

theorem one_group {α : Type} (o : Option ByteArray) : ∀ {R : List ByteArray}, R.Nodup → (R.map fun g => if o = some g then (1 : Nat) else 0).sum ≤ 1
  | [], _ => Nat.zero_le _
  | g :: R, h => by
    rw [List.nodup_cons] at h
    rw [List.map_cons, List.sum_cons]
    by_cases hg : o = some g
    · rw [if_pos hg]
      have : (R.map fun g' => if o = some g' then (1 : Nat) else 0) = R.map fun _ => 0 := by
        refine List.map_congr_left fun x hx => if_neg fun he => h.1 ?_
        rw [hg] at he; injection he with he; rw [he]; exact hx
      rw [this]
      have hz : ∀ R : List ByteArray, (R.map fun _ => (0 : Nat)).sum = 0 := by
        intro R; induction R with
        | nil => rfl
        | cons a R ih => rw [List.map_cons, List.sum_cons, ih]
      rw [hz]
      exact Nat.le_refl _
    · rw [if_neg hg]
      have := one_group (α := α) o h.2
      omega
theorem sum_add (f g : ByteArray → Nat) : ∀ R : List ByteArray, (R.map fun x => f x + g x).sum = (R.map f).sum + (R.map g).sum
  | [] => rfl
  | x :: R => by
    rw [List.map_cons, List.map_cons, List.map_cons, List.sum_cons, List.sum_cons, List.sum_cons, sum_add f g R]
    omega
theorem mem_sum (w : Wv) {R : List ByteArray} (hR : R.Nodup) : ∀ P : List Pr, (R.map fun g => (memG w g P).length).sum ≤ P.length
  | [] => by
    have : (R.map fun g => (memG w g []).length) = R.map fun _ => 0 := List.map_congr_left fun x _ => rfl
    rw [this]
    clear this hR
    induction R with
    | nil => exact Nat.le_refl _
    | cons a R ih => rw [List.map_cons, List.sum_cons]; simpa using ih
  | p :: P => by
    have : (R.map fun g => (memG w g (p :: P)).length) = R.map fun g => (if fieldF p.2 w.field = some g then 1 else 0) + (memG w g P).length := by
      refine List.map_congr_left fun g _ => ?_
      by_cases hg : fieldF p.2 w.field = some g
      · rw [memG_in hg, if_pos hg, List.length_cons]; omega
      · rw [memG_out hg, if_neg hg]; omega
    rw [this, sum_add, List.length_cons]
    have h1 := one_group (α := Nat) (fieldF p.2 w.field) hR
    have h2 := mem_sum w hR P
    omega
def wI (f : ByteArray) : Wv := ⟨⟨#[105]⟩, 1, f, ⟨#[]⟩⟩
def wC (f : ByteArray) : Wv := ⟨⟨#[99]⟩, 2, f, ⟨#[]⟩⟩
theorem vc_eq (f : ByteArray) : vcheck (wI f) = vcheck (wC f) := by
  have h1 : nameQ (wI f).name = true := by show nameQ ⟨#[105]⟩ = true; decide +kernel
  have h2 : nameQ (wC f).name = true := by show nameQ ⟨#[99]⟩ = true; decide +kernel
  have h3 : ofQ (wI f) = ofQ (wC f) := rfl
  unfold vcheck
  rw [h1, h2, h3]
  rfl
/-- The lists of an index and of a count. -/
structure IC (P : List Pr) (A B : List RV) : Prop where
  len : A.length = B.length
  row : ∀ (k : Nat) a b, A[k]? = some a → B[k]? = some b → a.text = b.text ∧ a.n = b.n ∧ a.n = a.keys.length ∧ b.keys = []
  sum : (A.map fun r => r.keys.length).sum ≤ P.length
theorem ic_of (f : ByteArray) (P : List Pr) : IC P (ofV (wI f) P).1 (ofV (wC f) P).1 ∧ (ofV (wI f) P).2 = (ofV (wC f) P).2 := by
  unfold ofV
  rw [vc_eq, fits_nosum (show (wI f).kind ≠ 3 by show (1 : Int) ≠ 3; decide) P, fits_nosum (show (wC f).kind ≠ 3 by show (2 : Int) ≠ 3; decide) P]
  split
  · refine ⟨?_, rfl⟩
    have hg : groups (wI f) P = groups (wC f) P := rfl
    have hm : ∀ g, memG (wI f) g P = memG (wC f) g P := fun _ => rfl
    simp only [if_true]
    refine ⟨?_, ?_, ?_⟩
    · unfold rowsOf
      rw [List.length_map, List.length_map, hg]
    · intro k a b ha hb
      unfold rowsOf at ha hb
      rw [hg, List.getElem?_map] at ha
      rw [List.getElem?_map] at hb
      cases hx : (sortB (groups (wC f) P))[k]? with
      | none => rw [hx] at ha; cases ha
      | some g =>
        rw [hx] at ha hb
        injection ha with ha
        injection hb with hb
        rw [← ha, ← hb]
        unfold rowOf
        have k1 : (wI f).kind = 1 := rfl
        have k2 : (wC f).kind = 2 := rfl
        simp only [k1, k2, if_true, if_neg (show ¬ (1 : Int) = 3 by decide), if_neg (show ¬ (2 : Int) = 3 by decide), if_neg (show ¬ (2 : Int) = 1 by decide), len_sortB, List.length_map, hm]
        trivial
    · unfold rowsOf
      rw [List.map_map]
      have : (List.map ((fun r => r.keys.length) ∘ rowOf (wI f) P) (sortB (groups (wI f) P))) = (sortB (groups (wI f) P)).map fun g => (memG (wI f) g P).length := by
        refine List.map_congr_left fun g _ => ?_
        unfold rowOf Function.comp
        have k1 : (wI f).kind = 1 := rfl
        simp only [k1, if_true, len_sortB, List.length_map]
      rw [this]
      refine mem_sum _ ?_ P
      have hn : (groups (wI f) P).Nodup := by unfold groups; exact nodup_dd
      rw [sortB_nodup hn]
      exact asc_nodup (sortR_asc _)
  · exact ⟨⟨rfl, fun k a b ha => (by cases ha), Nat.zero_le _⟩, rfl⟩
def sumK (A : List RV) (k : Nat) : Nat := ((A.take k).map fun r => r.keys.length).sum
theorem sumK_le (l : List RV) (k : Nat) : sumK l k ≤ (l.map fun r => r.keys.length).sum := by
  unfold sumK
  induction l generalizing k with
  | nil => simp
  | cons a l ih =>
    cases k with
    | zero => simp
    | succ k => rw [List.take_succ_cons, List.map_cons, List.map_cons, List.sum_cons, List.sum_cons]; have := ih k; omega
theorem sumK_one {l : List RV} {k : Nat} {a : RV} (h : l[k]? = some a) : sumK l (k + 1) = sumK l k + a.keys.length := by
  unfold sumK
  rw [take_map1 h, List.sum_append]; simp
set_option maxHeartbeats 8000000 in
theorem counts_law (all : List KO) (field : ByteArray) (S : Store) (K : PV → Store → Prop) (hK : ∀ S', K (.bool true) S') : PCalls Tryz.prog 5 [.sl .no 3 (encOs all), .str field] S K := by
  refine pcalls_of (C := C) (fun _ => false) (fun _ => false) Tryz.func5 rfl rfl (by simp [Tryz.f5]) ?_
  simp -implicitDefEqProofs only [go_sem, ↓reduceIte, Nat.reduceEqDiff, Nat.reduceLT, Nat.reduceLeDiff, Nat.reduceAdd, Nat.reduceMul, Nat.reduceSub, reduceCtorEq, Nat.reduceMod, Nat.reduceBEq, Int.reduceBEq, Int.reduceBNe, Int.reduceToNat, Tryz.f5, List.length_cons, List.length_nil, Nat.zero_add]
  refine shortV_spec [⟨0, all, ⟨⟨#[]⟩, 0, field, ⟨#[]⟩⟩⟩] _ _ ?_
  cases hs : shortV [⟨0, all, ⟨⟨#[]⟩, 0, field, ⟨#[]⟩⟩⟩]
  · simp -implicitDefEqProofs only [go_sem, ↓reduceIte, Nat.reduceEqDiff, Nat.reduceLT, Nat.reduceLeDiff, Nat.reduceAdd, Nat.reduceMul, Nat.reduceSub, reduceCtorEq, Nat.reduceMod, Nat.reduceBEq, Int.reduceBEq, Int.reduceBNe, Int.reduceToNat, Bool.not_false]
    refine aw_calls _ _ ?_
    intro S'
    simp -implicitDefEqProofs only [go_sem, ↓reduceIte, Nat.reduceEqDiff, Nat.reduceLT, Nat.reduceLeDiff, Nat.reduceAdd, Nat.reduceMul, Nat.reduceSub, reduceCtorEq, Nat.reduceMod, Nat.reduceBEq, Int.reduceBEq, Int.reduceBNe, Int.reduceToNat]
    exact ⟨S', fun _ _ h => h, hK S'⟩
  obtain ⟨hs1, hs2⟩ := shortV_fit hs
  obtain ⟨hal, hO⟩ := weighV_all (hs2 _ List.mem_cons_self)
  dsimp only at hal hO
  simp -implicitDefEqProofs only [go_sem, ↓reduceIte, Nat.reduceEqDiff, Nat.reduceLT, Nat.reduceLeDiff, Nat.reduceAdd, Nat.reduceMul, Nat.reduceSub, reduceCtorEq, Nat.reduceMod, Nat.reduceBEq, Int.reduceBEq, Int.reduceBNe, Int.reduceToNat, Bool.not_true, Bool.false_eq_true]
  refine KNew_calls _ _ ?_
  intro mid hm
  have hk0 : Km (S.set mid (some [.ip [enc .nil] 0])) mid .nil := Km.mk _ _ trivial List.Pairwise.nil
  generalize S.set mid (some [.ip [enc .nil] 0]) = S1 at hk0 ⊢
  simp -implicitDefEqProofs only [go_sem, ↓reduceIte, Nat.reduceEqDiff, Nat.reduceLT, Nat.reduceLeDiff, Nat.reduceAdd, Nat.reduceMul, Nat.reduceSub, reduceCtorEq, Nat.reduceMod, Nat.reduceBEq, Int.reduceBEq, Int.reduceBNe, Int.reduceToNat]
  refine vloop (fun e S' => ∃ (k : Nat) (t : V.T), k ≤ all.length ∧ Km S' mid t ∧ t.list.length ≤ 6 * k ∧ FitK t.list ∧ e 1 = .str field ∧ e 5 = .ref mid 0 ∧ e 24 = .sl .no 3 (encOs all) ∧ e 25 = .int .i64 all.length ∧ e 26 = .int .i64 k) (fun e _ => all.length - iv (e 26)) ?_ ?_
  · exact ⟨0, .nil, Nat.zero_le _, hk0, Nat.zero_le _, fun p hp => (by cases hp), by simp -implicitDefEqProofs only [go_sem, ↓reduceIte, Nat.reduceEqDiff], by simp -implicitDefEqProofs only [go_sem, ↓reduceIte, Nat.reduceEqDiff], by simp -implicitDefEqProofs only [go_sem, ↓reduceIte, Nat.reduceEqDiff], by simp -implicitDefEqProofs only [go_sem, ↓reduceIte, Nat.reduceEqDiff], by simp -implicitDefEqProofs only [go_sem, ↓reduceIte, Nat.reduceEqDiff]⟩
  · rintro J M Q' hJ hM hQ e S' ⟨k, t, hk, hkm, htl, hfk, e1, e5, e24, e25, e26⟩
    by_cases hlt : k < all.length
    · obtain ⟨o, ho⟩ : ∃ o, all[k]? = some o := ⟨all[k], List.getElem?_eq_getElem hlt⟩
      have hlti : (k : Int) < (all.length : Int) := by omega
      have h1 : (0 : Int) ≤ (k : Int) ∧ (k : Int) < (all.length : Int) := by omega
      have hw1 : IntKind.i64.wrap ((k : Int) + 1) = ((k + 1 : Nat) : Int) := wrap64 (by omega) (by omega)
      simp -implicitDefEqProofs only [go_sem, ↓reduceIte, Nat.reduceEqDiff, Nat.reduceLT, Nat.reduceLeDiff, Nat.reduceAdd, Nat.reduceMul, Nat.reduceSub, reduceCtorEq, Nat.reduceMod, Nat.reduceBEq, Int.reduceBEq, Int.reduceBNe, Int.reduceToNat, e5, e24, e25, e26, hlti, h1, Int.toNat_natCast, getD_encOs ho]
      refine PCalls.unflag (KDo_calls hkm (by omega) 1 [] [o] _ ?_)
      intro q hq hql
      have hoo : FitO [o] := fun x hx => by
        rw [List.mem_singleton] at hx; subst hx
        exact hO x (List.mem_of_getElem? ho)
      have hdl := (doF_ok hkm.2.2 1 [] [o]).2
      have hfq : FitK q.list := by
        rw [hql, doF_take]
        exact fit_take _ _ hfk (planF_fit hfk hoo)
      unfold encPl
      simp -implicitDefEqProofs only [go_sem, ↓reduceIte, Nat.reduceEqDiff, Nat.reduceLT, Nat.reduceLeDiff, Nat.reduceAdd, Nat.reduceMul, Nat.reduceSub, reduceCtorEq, Nat.reduceMod, Nat.reduceBEq, Int.reduceBEq, Int.reduceBNe, Int.reduceToNat, e26, hw1]
      refine vnext hJ hM _ (fun _ _ h => h) ⟨k + 1, q, hlt, hq, by rw [hql]; omega, hfq, ?_, ?_, ?_, ?_, ?_⟩ ?_
      · simp -implicitDefEqProofs only [go_sem, ↓reduceIte, Nat.reduceEqDiff, e1]
      · simp -implicitDefEqProofs only [go_sem, ↓reduceIte, Nat.reduceEqDiff, e5]
      · simp -implicitDefEqProofs only [go_sem, ↓reduceIte, Nat.reduceEqDiff, e24]
      · simp -implicitDefEqProofs only [go_sem, ↓reduceIte, Nat.reduceEqDiff, e25]
      · simp -implicitDefEqProofs only [go_sem, ↓reduceIte, Nat.reduceEqDiff]
      · simp -implicitDefEqProofs only [go_sem, ↓reduceIte, Nat.reduceEqDiff, e26, Int.toNat_natCast]
        omega
    · have hnl : ¬ (k : Int) < (all.length : Int) := by omega
      simp -implicitDefEqProofs only [go_sem, ↓reduceIte, Nat.reduceEqDiff, Nat.reduceLT, Nat.reduceLeDiff, Nat.reduceAdd, Nat.reduceMul, Nat.reduceSub, reduceCtorEq, Nat.reduceMod, Nat.reduceBEq, Int.reduceBEq, Int.reduceBNe, Int.reduceToNat, e25, e26, hnl]
      refine hQ _ _ _ ?_
      have hL : t.list.length ≤ 1000000 := by omega
      have hnd := sorted_nodup hkm.2.2
      have hbadK : True := trivial
      simp -implicitDefEqProofs only [go_sem, ↓reduceIte, Nat.reduceEqDiff, Nat.reduceLT, Nat.reduceLeDiff, Nat.reduceAdd, Nat.reduceMul, Nat.reduceSub, reduceCtorEq, Nat.reduceMod, Nat.reduceBEq, Int.reduceBEq, Int.reduceBNe, Int.reduceToNat, e1, e5]
      refine KScan_spec hkm hL _ _ _ ?_
      rw [rangeL_all]
      simp -implicitDefEqProofs only [go_sem, ↓reduceIte, Nat.reduceEqDiff, Nat.reduceLT, Nat.reduceLeDiff, Nat.reduceAdd, Nat.reduceMul, Nat.reduceSub, reduceCtorEq, Nat.reduceMod, Nat.reduceBEq, Int.reduceBEq, Int.reduceBNe, Int.reduceToNat, e1]
      refine VOf_calls (wI field) t.list hL hfk hnd _ _ ?_
      intro S2 hs2
      obtain ⟨hic, heq⟩ := ic_of field t.list
      obtain ⟨A, hA⟩ : ∃ A, A = (ofV (wI field) t.list).1 := ⟨_, rfl⟩
      obtain ⟨B, hB⟩ : ∃ B, B = (ofV (wC field) t.list).1 := ⟨_, rfl⟩
      unfold encOf
      simp -implicitDefEqProofs only [go_sem, ↓reduceIte, Nat.reduceEqDiff, Nat.reduceLT, Nat.reduceLeDiff, Nat.reduceAdd, Nat.reduceMul, Nat.reduceSub, reduceCtorEq, Nat.reduceMod, Nat.reduceBEq, Int.reduceBEq, Int.reduceBNe, Int.reduceToNat, e1]
      refine VOf_calls (wC field) t.list hL hfk hnd _ _ ?_
      intro S3 hs3
      unfold encOf
      rw [← hA, ← hB] at hic
      rw [← hA, ← hB, heq]
      have hAl : A.length ≤ 1000000 := by rw [hA]; exact Nat.le_trans (ofV_len _ _).1 hL
      have hsumA : ∀ k, sumK A k ≤ 1000000 := fun k => Nat.le_trans (sumK_le A k) (Nat.le_trans hic.sum hL)
      have hBl : B.length = A.length := hic.len.symm
      have hmin : (if (A.length : Int) < (A.length : Int) then (A.length : Int) else (A.length : Int)) = (A.length : Int) := by split <;> rfl
      simp -implicitDefEqProofs only [go_sem, ↓reduceIte, Nat.reduceEqDiff, Nat.reduceLT, Nat.reduceLeDiff, Nat.reduceAdd, Nat.reduceMul, Nat.reduceSub, reduceCtorEq, Nat.reduceMod, Nat.reduceBEq, Int.reduceBEq, Int.reduceBNe, Int.reduceToNat, neI, Bool.false_eq_true, hBl, hmin]
      clear hQ hM hJ
      refine vloop (fun e S' => S' = S3 ∧ ∃ k : Nat, k ≤ A.length ∧ e 8 = .sl .no 3 (encOs (t.list.map kOf)) ∧ e 9 = .sl .no 3 (encRVs A) ∧ e 11 = .sl .no 3 (encRVs B) ∧ e 13 = .int .i64 (sumK A k : Nat) ∧ e 65 = .int .i64 A.length ∧ e 66 = .int .i64 k) (fun e _ => A.length - iv (e 66)) ?_ ?_
      · exact ⟨rfl, 0, Nat.zero_le _, by simp -implicitDefEqProofs only [go_sem, ↓reduceIte, Nat.reduceEqDiff], by simp -implicitDefEqProofs only [go_sem, ↓reduceIte, Nat.reduceEqDiff], by simp -implicitDefEqProofs only [go_sem, ↓reduceIte, Nat.reduceEqDiff], by simp -implicitDefEqProofs only [go_sem, ↓reduceIte, Nat.reduceEqDiff]; rfl, by simp -implicitDefEqProofs only [go_sem, ↓reduceIte, Nat.reduceEqDiff], by simp -implicitDefEqProofs only [go_sem, ↓reduceIte, Nat.reduceEqDiff]⟩
      · clear e1 e5 e24 e25 e26
        rintro J2 M2 Q2 hJ2 hM2 hQ2 e S4 ⟨rfl, k, hk, e8, e9, e11, e13, e65, e66⟩
        by_cases hlt : k < A.length
        · obtain ⟨a, ha⟩ : ∃ a, A[k]? = some a := ⟨A[k], List.getElem?_eq_getElem hlt⟩
          obtain ⟨b, hb⟩ : ∃ b, B[k]? = some b := ⟨B[k]'(by omega), List.getElem?_eq_getElem _⟩
          obtain ⟨r1, r2, r3, r4⟩ := hic.row k a b ha hb
          have hlti : (k : Int) < (A.length : Int) := by omega
          have h1 : (0 : Int) ≤ (k : Int) ∧ (k : Int) < (A.length : Int) := by omega
          have hw1 : IntKind.i64.wrap ((k : Int) + 1) = ((k + 1 : Nat) : Int) := wrap64 (by omega) (by omega)
          have ht := sumK_one ha
          have hs1 := hsumA (k + 1)
          have hw2 : IntKind.i64.wrap ((sumK A k : Int) + (a.keys.length : Int)) = (sumK A (k + 1) : Nat) := by rw [ht]; rw [wrap64 (by omega) (by omega)]; omega
          have hn2 : (a.n != b.n) = false := by rw [r2]; exact neI _
          have hn3 : (a.n != (a.keys.length : Int)) = false := by rw [r3]; exact neI _
          have hn4 : ¬ (0 : Int) < 0 := by decide
          have gb : (encRVs B).getD k [] = [.str a.text, .sl .no 1 [], .int .i64 b.n] := by rw [getD_encRVs hb, ← r1, r4]; rfl
          simp -implicitDefEqProofs only [go_sem, ↓reduceIte, Nat.reduceEqDiff, Nat.reduceLT, Nat.reduceLeDiff, Nat.reduceAdd, Nat.reduceMul, Nat.reduceSub, reduceCtorEq, Nat.reduceMod, Nat.reduceBEq, Int.reduceBEq, Int.reduceBNe, Int.reduceToNat, e65, e66, hlti]
          refine vwp_draw (by decide +kernel) ?_
          simp -implicitDefEqProofs only [go_sem, ↓reduceIte, Nat.reduceEqDiff, Nat.reduceLT, Nat.reduceLeDiff, Nat.reduceAdd, Nat.reduceMul, Nat.reduceSub, reduceCtorEq, Nat.reduceMod, Nat.reduceBEq, Int.reduceBEq, Int.reduceBNe, Int.reduceToNat, e9, e11, h1, hBl, Int.toNat_natCast, getD_encRVs ha, gb, same_refl, Bool.not_true, hn2, hn3, List.length_nil, hn4, Bool.false_eq_true, e13, e66, hw1, hw2]
          refine vnext hJ2 hM2 S4 (fun _ _ h => h) ⟨rfl, k + 1, hlt, ?_, ?_, ?_, ?_, ?_, ?_⟩ ?_
          · simp -implicitDefEqProofs only [go_sem, ↓reduceIte, Nat.reduceEqDiff, e8]
          · simp -implicitDefEqProofs only [go_sem, ↓reduceIte, Nat.reduceEqDiff, e9]
          · simp -implicitDefEqProofs only [go_sem, ↓reduceIte, Nat.reduceEqDiff, e11]
          · simp -implicitDefEqProofs only [go_sem, ↓reduceIte, Nat.reduceEqDiff]
          · simp -implicitDefEqProofs only [go_sem, ↓reduceIte, Nat.reduceEqDiff, e65]
          · simp -implicitDefEqProofs only [go_sem, ↓reduceIte, Nat.reduceEqDiff]
          · simp -implicitDefEqProofs only [go_sem, ↓reduceIte, Nat.reduceEqDiff, e66, Int.toNat_natCast]
            omega
        · have hnl : ¬ (k : Int) < (A.length : Int) := by omega
          have hsum := Nat.le_trans (sumK_le A k) hic.sum
          have hle : (sumK A k : Int) ≤ (t.list.length : Int) := by omega
          simp -implicitDefEqProofs only [go_sem, ↓reduceIte, Nat.reduceEqDiff, Nat.reduceLT, Nat.reduceLeDiff, Nat.reduceAdd, Nat.reduceMul, Nat.reduceSub, reduceCtorEq, Nat.reduceMod, Nat.reduceBEq, Int.reduceBEq, Int.reduceBNe, Int.reduceToNat, e65, e66, hnl]
          refine hQ2 _ _ _ ?_
          simp -implicitDefEqProofs only [go_sem, ↓reduceIte, Nat.reduceEqDiff, Nat.reduceLT, Nat.reduceLeDiff, Nat.reduceAdd, Nat.reduceMul, Nat.reduceSub, reduceCtorEq, Nat.reduceMod, Nat.reduceBEq, Int.reduceBEq, Int.reduceBNe, Int.reduceToNat, e8, e13, List.length_map, hle]
          refine aw_calls _ _ ?_
          intro S5
          simp -implicitDefEqProofs only [go_sem, ↓reduceIte, Nat.reduceEqDiff, Nat.reduceLT, Nat.reduceLeDiff, Nat.reduceAdd, Nat.reduceMul, Nat.reduceSub, reduceCtorEq, Nat.reduceMod, Nat.reduceBEq, Int.reduceBEq, Int.reduceBNe, Int.reduceToNat]
          exact ⟨S5, fun _ _ h => h, hK S5⟩
end Go.Proofs.YtdioedabjaaboaaGreat.V
