/- Views: the document's sorted texts. -/
import Derived.Test.YtdioedabjaaboaaGreatYE
set_option linter.unusedVariables false
set_option linter.unusedSimpArgs false
namespace Go.Proofs.YtdioedabjaaboaaGreat.V
open Go Go.VL

def insP (s : ByteArray) : List ByteArray → List ByteArray
 | [] => [s]
 | x :: l => if lt x s = true then x :: insP s l else if same x s = true then x :: l else s :: x :: l
def sortR (l : List ByteArray) : List ByteArray := l.foldl (fun out s => insP s out) []
def Asc (l : List ByteArray) : Prop := l.Pairwise fun a b => lt a b = true
theorem insP_mem {s x : ByteArray} : ∀ {l : List ByteArray}, x ∈ insP s l ↔ x = s ∨ x ∈ l
 | [] => by simp [insP]
 | y :: l => by
  unfold insP
  split
  ·rw [List.mem_cons, insP_mem, List.mem_cons]
   constructor
   ·rintro (h | h | h)
    ·exact .inr (.inl h)
    ·exact .inl h
    ·exact .inr (.inr h)
   ·rintro (h | h | h)
    ·exact .inr (.inl h)
    ·exact .inl h
    ·exact .inr (.inr h)
  ·split
   ·rename_i h
    have := same_iff.1 h
    subst this
    rw [List.mem_cons]
    constructor
    ·exact fun h => .inr h
    ·rintro (h | h)
     ·exact .inl h
     ·exact h
   ·rw [List.mem_cons]
theorem insP_asc {s : ByteArray} : ∀ {l : List ByteArray}, Asc l → Asc (insP s l)
 | [], _ => List.pairwise_singleton _ _
 | y :: l, h => by
  have h2 := List.pairwise_cons.1 h
  unfold insP
  split
  ·rename_i hlt
   refine List.pairwise_cons.2 ⟨fun x hx => ?_, insP_asc h2.2⟩
   rcases insP_mem.1 hx with rfl | hx
   ·exact hlt
   ·exact h2.1 x hx
  ·rename_i hnl
   split
   ·exact h
   ·rename_i hns
    have hsy : lt s y = true := by
     cases hh : lt s y with
     | true => rfl
     | false => exact absurd (same_iff.2 (lt_tri (by simpa using hnl) hh)) hns
    refine List.pairwise_cons.2 ⟨fun x hx => ?_, h⟩
    rcases List.mem_cons.1 hx with rfl | hx
    ·exact hsy
    ·exact lt_trans hsy (h2.1 x hx)
theorem sortR_go : ∀ (l out : List ByteArray), Asc out → Asc (l.foldl (fun out s => insP s out) out) ∧ ∀ x, x ∈ l.foldl (fun out s => insP s out) out ↔ x ∈ l ∨ x ∈ out
 | [], out, h => ⟨h, fun x => by simp⟩
 | s :: l, out, h => by
  obtain ⟨h1, h2⟩ := sortR_go l (insP s out) (insP_asc h)
  refine ⟨h1, fun x => ?_⟩
  rw [List.foldl_cons, h2, insP_mem, List.mem_cons]
  constructor
  ·rintro (h | h | h)
   ·exact .inl (.inr h)
   ·exact .inl (.inl h)
   ·exact .inr h
  ·rintro ((h | h) | h)
   ·exact .inr (.inl h)
   ·exact .inl h
   ·exact .inr (.inr h)
theorem sortR_asc (l : List ByteArray) : Asc (sortR l) := (sortR_go l [] List.Pairwise.nil).1
theorem sortR_mem {l : List ByteArray} {x : ByteArray} : x ∈ sortR l ↔ x ∈ l := by
 rw [show sortR l = l.foldl (fun out s => insP s out) [] from rfl, (sortR_go l [] List.Pairwise.nil).2]; simp
theorem asc_nodup {l : List ByteArray} (h : Asc l) : l.Nodup := List.Pairwise.imp (fun {a b} hab he => by rw [he, lt_irrefl] at hab; cases hab) h
theorem bl_iff : ∀ x y : List UInt8, Op.bytesLess x y = true ↔ x < y
 | [], [] => by simp [Op.bytesLess]
 | [], b :: y => by simp [Op.bytesLess]
 | a :: x, [] => by simp [Op.bytesLess]
 | a :: x, b :: y => by
  rw [List.cons_lt_cons_iff]
  simp only [Op.bytesLess, Bool.or_eq_true, Bool.and_eq_true, decide_eq_true_eq, beq_iff_eq, bl_iff x y]
theorem leB_of {a b : ByteArray} (h : lt a b = true) : leB a.data.toList b.data.toList = true := by
 have h2 := lt_asym h
 rw [ltd] at h2
 refine decide_eq_true ?_
 refine List.not_lt.1 fun h3 => ?_
 rw [← bl_iff, h2] at h3
 cases h3
theorem sortB_asc {l : List ByteArray} (h : Asc l) : sortB l = l := by
 unfold sortB
 rw [List.mergeSort_of_pairwise]
 ·rw [List.map_map]
  exact List.map_id'' (fun x => rfl) l
 ·rw [List.pairwise_map]
  exact List.Pairwise.imp (fun {a b} hab => leB_of hab) h
theorem sortB_R {D l : List ByteArray} (hn : D.Nodup) (h : ∀ x, x ∈ D ↔ x ∈ l) : sortB D = sortR l := by
 rw [sortB_perm (perm_of_mem hn (asc_nodup (sortR_asc l)) fun x => by rw [h, sortR_mem]), sortB_asc (sortR_asc l)]
theorem sortB_nodup {l : List ByteArray} (hn : l.Nodup) : sortB l = sortR l := sortB_R hn fun _ => Iff.rfl
theorem insP_at {s : ByteArray} : ∀ {l : List ByteArray} {k : Nat}, k ≤ l.length → (∀ i x, i < k → l[i]? = some x → lt x s = true) → (∀ x, l[k]? = some x → lt x s = false) →
  (∀ x, l[k]? = some x → same x s = true → insP s l = l) ∧ ((∀ x, l[k]? = some x → same x s = false) → insP s l = l.take k ++ s :: l.drop k)
 | [], k, hk, _, _ => by
  have : k = 0 := by simpa using hk
  subst this
  exact ⟨fun x h => (by simp at h), fun _ => rfl⟩
 | y :: l, 0, hk, h1, h2 => by
  have hy : lt y s = false := h2 y rfl
  refine ⟨fun x hx hs => ?_, fun hs => ?_⟩
  ·have : y = x := by simpa using hx
   subst this
   unfold insP
   rw [if_neg (by rw [hy]; decide), if_pos hs]
  ·have := hs y rfl
   unfold insP
   rw [if_neg (by rw [hy]; decide), if_neg (by rw [this]; decide)]
   rfl
 | y :: l, k + 1, hk, h1, h2 => by
  have hy : lt y s = true := h1 0 y (by omega) rfl
  obtain ⟨h3, h4⟩ := insP_at (l := l) (k := k) (by simpa using hk) (fun i x hi hx => h1 (i + 1) x (by omega) (by simpa using hx)) (fun x hx => h2 x (by simpa using hx))
  refine ⟨fun x hx hs => ?_, fun hs => ?_⟩
  ·unfold insP
   rw [if_pos hy, h3 x (by simpa using hx) hs]
  ·unfold insP
   rw [if_pos hy, h4 (fun x hx => hs x (by simpa using hx))]
   rfl
theorem sortR_len (l : List ByteArray) : ∀ out : List ByteArray, (l.foldl (fun out s => insP s out) out).length ≤ l.length + out.length := by
 have one : ∀ (s : ByteArray) (out : List ByteArray), (insP s out).length ≤ out.length + 1 := by
  intro s out
  induction out with
  | nil => simp [insP]
  | cons y out ih =>
   unfold insP
   split
   ·simp only [List.length_cons]; omega
   ·split <;> simp only [List.length_cons] <;> omega
 induction l with
 | nil => intro out; simp
 | cons s l ih =>
  intro out
  have h1 := ih (insP s out)
  have h2 := one s out
  rw [List.foldl_cons, List.length_cons]
  omega
theorem encS_take (l : List ByteArray) (k : Nat) : (encS l).take k = encS (l.take k) := by simp [encS]
theorem encS_drop (l : List ByteArray) (k : Nat) : (encS l).drop k = encS (l.drop k) := by simp [encS]
theorem encS_app (l m : List ByteArray) : encS l ++ encS m = encS (l ++ m) := by simp [encS]
set_option maxHeartbeats 4000000 in
theorem RSorted_spec (l : List ByteArray) (hl : l.length ≤ 1000000) (S : Store) : PRet Tryz.prog 47 [.sl .no 1 (encS l)] S (.sl .no 1 (encS (sortR l))) := by
 intro K hK
 refine pcalls_of (C := C) (fun d => d == 7 || d == 45 || d == 49 || d == 3) (fun _ => false) Tryz.func47 rfl rfl (by simp [Tryz.f47]) ?_
 simp -implicitDefEqProofs only [go_sem, ↓reduceIte, Nat.reduceEqDiff, Nat.reduceLT, Nat.reduceLeDiff, Nat.reduceAdd, Nat.reduceMul, Nat.reduceSub, reduceCtorEq, Nat.reduceMod, Nat.reduceBEq, Int.reduceBEq, Int.reduceBNe, Int.reduceToNat, Tryz.f47]
 refine vloop (fun e S' => S' = S ∧ ∃ (k : Nat) (out : List ByteArray), k ≤ l.length ∧ sortR l = (l.drop k).foldl (fun out s => insP s out) out ∧ out.length ≤ k ∧ e 3 = .sl .tail 1 (encS out) ∧ e 8 = .sl .no 1 (encS l) ∧ e 9 = .int .i64 l.length ∧ e 10 = .int .i64 k) (fun e _ => l.length - iv (e 10)) ?_ ?_
 ·exact ⟨rfl, 0, [], Nat.zero_le _, rfl, Nat.le_refl _, by simp -implicitDefEqProofs only [go_sem, ↓reduceIte, Nat.reduceEqDiff]; rfl, by simp -implicitDefEqProofs only [go_sem, ↓reduceIte, Nat.reduceEqDiff], by simp -implicitDefEqProofs only [go_sem, ↓reduceIte, Nat.reduceEqDiff], by simp -implicitDefEqProofs only [go_sem, ↓reduceIte, Nat.reduceEqDiff]⟩
 ·rintro J M Q' hJ hM hQ e S' ⟨rfl, k, out, hk, hr, hok, e3, e8, e9, e10⟩
  by_cases hlt : k < l.length
  ·obtain ⟨s, hs⟩ : ∃ s, l[k]? = some s := ⟨l[k], List.getElem?_eq_getElem hlt⟩
   have hlti : (k : Int) < (l.length : Int) := by omega
   have h0 : (0 : Int) ≤ (k : Int) ∧ (k : Int) < (l.length : Int) := by omega
   have hw : IntKind.i64.wrap ((k : Int) + 1) = ((k + 1 : Nat) : Int) := wrap64 (by omega) (by omega)
   rw [drop_cons hs, List.foldl_cons] at hr
   simp -implicitDefEqProofs only [go_sem, ↓reduceIte, Nat.reduceEqDiff, Nat.reduceLT, Nat.reduceLeDiff, Nat.reduceAdd, Nat.reduceMul, Nat.reduceSub, reduceCtorEq, Nat.reduceMod, Nat.reduceBEq, Int.reduceBEq, Int.reduceBNe, Int.reduceToNat, e3, e8, e9, e10, hlti, h0, Int.toNat_natCast, getD_encS hs]
   refine vloop (fun e S'' => S'' = S' ∧ ∃ j : Nat, j ≤ out.length ∧ (∀ i x, i < j → out[i]? = some x → lt x s = true) ∧ e 3 = .sl .tail 1 (encS out) ∧ e 5 = .str s ∧ e 6 = .int .i64 j ∧ e 8 = .sl .no 1 (encS l) ∧ e 9 = .int .i64 l.length ∧ e 10 = .int .i64 k) (fun e _ => out.length - iv (e 6)) ?_ ?_
   ·exact ⟨rfl, 0, Nat.zero_le _, fun i x hi => (by omega), by simp -implicitDefEqProofs only [go_sem, ↓reduceIte, Nat.reduceEqDiff, e3], by simp -implicitDefEqProofs only [go_sem, ↓reduceIte, Nat.reduceEqDiff], by simp -implicitDefEqProofs only [go_sem, ↓reduceIte, Nat.reduceEqDiff], by simp -implicitDefEqProofs only [go_sem, ↓reduceIte, Nat.reduceEqDiff, e8], by simp -implicitDefEqProofs only [go_sem, ↓reduceIte, Nat.reduceEqDiff, e9], by simp -implicitDefEqProofs only [go_sem, ↓reduceIte, Nat.reduceEqDiff, e10]⟩
   ·rintro J2 M2 Q2 hJ2 hM2 hQ2 e2 S2 ⟨rfl, j, hj, hall, f3, f5, f6, f8, f9, f10⟩
    by_cases hlt2 : j < out.length
    ·obtain ⟨y, hy⟩ : ∃ y, out[j]? = some y := ⟨out[j], List.getElem?_eq_getElem hlt2⟩
     have hlti2 : (j : Int) < (out.length : Int) := by omega
     have h02 : (0 : Int) ≤ (j : Int) ∧ (j : Int) < (out.length : Int) := by omega
     have hw2 : IntKind.i64.wrap ((j : Int) + 1) = ((j + 1 : Nat) : Int) := wrap64 (by omega) (by omega)
     cases hys : lt y s
     ·simp -implicitDefEqProofs only [go_sem, ↓reduceIte, Nat.reduceEqDiff, Nat.reduceLT, Nat.reduceLeDiff, Nat.reduceAdd, Nat.reduceMul, Nat.reduceSub, reduceCtorEq, Nat.reduceMod, Nat.reduceBEq, Int.reduceBEq, Int.reduceBNe, Int.reduceToNat, f3, f5, f6, hlti2, h02, Int.toNat_natCast, getD_encS hy, hys]
      refine hQ2 _ _ _ ?_
      obtain ⟨i1, i2⟩ := insP_at (l := out) (k := j) (s := s) hj hall (fun x hx => by rw [hy] at hx; injection hx with hx; rw [← hx]; exact hys)
      cases hsm : same y s
      ·have hin := i2 (fun x hx => by rw [hy] at hx; injection hx with hx; rw [← hx]; exact hsm)
       rw [hin] at hr
       simp -implicitDefEqProofs only [go_sem, ↓reduceIte, Nat.reduceEqDiff, Nat.reduceLT, Nat.reduceLeDiff, Nat.reduceAdd, Nat.reduceMul, Nat.reduceSub, reduceCtorEq, Nat.reduceMod, Nat.reduceBEq, Int.reduceBEq, Int.reduceBNe, Int.reduceToNat, f3, f5, f6, f10, hlti2, h02, Int.toNat_natCast, getD_encS hy, hsm, Bool.false_eq_true, encS_take, encS_drop]
       refine ⟨by omega, by simp only [List.length_take]; omega, by simp only [List.length_take]; omega, by omega, by simp only [List.length_append, len_encS, List.length_take, List.length_drop, List.length_cons, List.length_nil]; omega, ?_⟩
       have htd : List.take (out.length - j) (List.drop j out) = out.drop j := List.take_of_length_le (by rw [List.length_drop]; exact Nat.le_refl _)
       have hnew : encS (out.take j) ++ [[PV.str s]] ++ encS (out.drop j) = encS (out.take j ++ s :: out.drop j) := by rw [encS_one, encS_app, List.append_assoc]; rfl
       refine vnext hJ hM S2 (fun _ _ h => h) ⟨rfl, k + 1, out.take j ++ s :: out.drop j, hlt, hr, by simp only [List.length_append, List.length_take, List.length_drop, List.length_cons]; omega, ?_, ?_, ?_, ?_⟩ ?_
       ·simp -implicitDefEqProofs only [go_sem, ↓reduceIte, Nat.reduceEqDiff, htd, hnew]
       ·simp -implicitDefEqProofs only [go_sem, ↓reduceIte, Nat.reduceEqDiff, f8]
       ·simp -implicitDefEqProofs only [go_sem, ↓reduceIte, Nat.reduceEqDiff, f9]
       ·simp -implicitDefEqProofs only [go_sem, ↓reduceIte, Nat.reduceEqDiff, hw]
       ·simp -implicitDefEqProofs only [go_sem, ↓reduceIte, Nat.reduceEqDiff, e10, f10, hw, Int.toNat_natCast]
        omega
      ·rw [i1 y hy hsm] at hr
       simp -implicitDefEqProofs only [go_sem, ↓reduceIte, Nat.reduceEqDiff, Nat.reduceLT, Nat.reduceLeDiff, Nat.reduceAdd, Nat.reduceMul, Nat.reduceSub, reduceCtorEq, Nat.reduceMod, Nat.reduceBEq, Int.reduceBEq, Int.reduceBNe, Int.reduceToNat, f3, f5, f6, f10, hlti2, h02, Int.toNat_natCast, getD_encS hy, hsm, hw]
       refine vnext hJ hM S2 (fun _ _ h => h) ⟨rfl, k + 1, out, hlt, hr, by omega, ?_, ?_, ?_, ?_⟩ ?_
       ·simp -implicitDefEqProofs only [go_sem, ↓reduceIte, Nat.reduceEqDiff, f3]
       ·simp -implicitDefEqProofs only [go_sem, ↓reduceIte, Nat.reduceEqDiff, f8]
       ·simp -implicitDefEqProofs only [go_sem, ↓reduceIte, Nat.reduceEqDiff, f9]
       ·simp -implicitDefEqProofs only [go_sem, ↓reduceIte, Nat.reduceEqDiff]
       ·simp -implicitDefEqProofs only [go_sem, ↓reduceIte, Nat.reduceEqDiff, e10, Int.toNat_natCast]
        omega
     ·simp -implicitDefEqProofs only [go_sem, ↓reduceIte, Nat.reduceEqDiff, Nat.reduceLT, Nat.reduceLeDiff, Nat.reduceAdd, Nat.reduceMul, Nat.reduceSub, reduceCtorEq, Nat.reduceMod, Nat.reduceBEq, Int.reduceBEq, Int.reduceBNe, Int.reduceToNat, f3, f5, f6, hlti2, h02, Int.toNat_natCast, getD_encS hy, hys, hw2]
      refine vnext hJ2 hM2 S2 (fun _ _ h => h) ⟨rfl, j + 1, hlt2, ?_, ?_, ?_, ?_, ?_, ?_, ?_⟩ ?_
      ·intro i x hi hx
       by_cases hij : i < j
       ·exact hall i x hij hx
       ·have : i = j := by omega
        subst this
        rw [hy] at hx
        injection hx with hx
        rw [← hx]; exact hys
      ·simp -implicitDefEqProofs only [go_sem, ↓reduceIte, Nat.reduceEqDiff, f3]
      ·simp -implicitDefEqProofs only [go_sem, ↓reduceIte, Nat.reduceEqDiff, f5]
      ·simp -implicitDefEqProofs only [go_sem, ↓reduceIte, Nat.reduceEqDiff]
      ·simp -implicitDefEqProofs only [go_sem, ↓reduceIte, Nat.reduceEqDiff, f8]
      ·simp -implicitDefEqProofs only [go_sem, ↓reduceIte, Nat.reduceEqDiff, f9]
      ·simp -implicitDefEqProofs only [go_sem, ↓reduceIte, Nat.reduceEqDiff, f10]
      ·simp -implicitDefEqProofs only [go_sem, ↓reduceIte, Nat.reduceEqDiff, f6, Int.toNat_natCast]
       omega
    ·have hje : j = out.length := by omega
     have hnl2 : ¬ (j : Int) < (out.length : Int) := by omega
     have hnone : out[j]? = none := List.getElem?_eq_none (by omega)
     obtain ⟨i1, i2⟩ := insP_at (l := out) (k := j) (s := s) hj hall (fun x hx => by rw [hnone] at hx; cases hx)
     rw [i2 (fun x hx => by rw [hnone] at hx; cases hx)] at hr
     simp -implicitDefEqProofs only [go_sem, ↓reduceIte, Nat.reduceEqDiff, Nat.reduceLT, Nat.reduceLeDiff, Nat.reduceAdd, Nat.reduceMul, Nat.reduceSub, reduceCtorEq, Nat.reduceMod, Nat.reduceBEq, Int.reduceBEq, Int.reduceBNe, Int.reduceToNat, f3, f6, hnl2, Bool.false_eq_true]
     refine hQ2 _ _ _ ?_
     simp -implicitDefEqProofs only [go_sem, ↓reduceIte, Nat.reduceEqDiff, Nat.reduceLT, Nat.reduceLeDiff, Nat.reduceAdd, Nat.reduceMul, Nat.reduceSub, reduceCtorEq, Nat.reduceMod, Nat.reduceBEq, Int.reduceBEq, Int.reduceBNe, Int.reduceToNat, f3, f5, f6, f10, hnl2, Int.toNat_natCast, Bool.false_eq_true, encS_take, encS_drop]
     refine ⟨by omega, by simp only [List.length_take]; omega, by simp only [List.length_take]; omega, by omega, by simp only [List.length_append, len_encS, List.length_take, List.length_drop, List.length_cons, List.length_nil]; omega, ?_⟩
     have htd : List.take (out.length - j) (List.drop j out) = out.drop j := List.take_of_length_le (by rw [List.length_drop]; exact Nat.le_refl _)
     have hnew : encS (out.take j) ++ [[PV.str s]] ++ encS (out.drop j) = encS (out.take j ++ s :: out.drop j) := by rw [encS_one, encS_app, List.append_assoc]; rfl
     refine vnext hJ hM S2 (fun _ _ h => h) ⟨rfl, k + 1, out.take j ++ s :: out.drop j, hlt, hr, by simp only [List.length_append, List.length_take, List.length_drop, List.length_cons]; omega, ?_, ?_, ?_, ?_⟩ ?_
     ·simp -implicitDefEqProofs only [go_sem, ↓reduceIte, Nat.reduceEqDiff, htd, hnew]
     ·simp -implicitDefEqProofs only [go_sem, ↓reduceIte, Nat.reduceEqDiff, f8]
     ·simp -implicitDefEqProofs only [go_sem, ↓reduceIte, Nat.reduceEqDiff, f9]
     ·simp -implicitDefEqProofs only [go_sem, ↓reduceIte, Nat.reduceEqDiff, hw]
     ·simp -implicitDefEqProofs only [go_sem, ↓reduceIte, Nat.reduceEqDiff, e10, f10, hw, Int.toNat_natCast]
      omega
  ·have hnl : ¬ (k : Int) < (l.length : Int) := by omega
   rw [List.drop_of_length_le (by omega)] at hr
   rw [hr] at hK
   simp -implicitDefEqProofs only [go_sem, ↓reduceIte, Nat.reduceEqDiff, Nat.reduceLT, Nat.reduceLeDiff, Nat.reduceAdd, Nat.reduceMul, Nat.reduceSub, reduceCtorEq, Nat.reduceMod, Nat.reduceBEq, Int.reduceBEq, Int.reduceBNe, Int.reduceToNat, e9, e10, hnl]
   refine hQ _ _ _ ?_
   simp -implicitDefEqProofs only [go_sem, ↓reduceIte, Nat.reduceEqDiff, Nat.reduceLT, Nat.reduceLeDiff, Nat.reduceAdd, Nat.reduceMul, Nat.reduceSub, reduceCtorEq, Nat.reduceMod, Nat.reduceBEq, Int.reduceBEq, Int.reduceBNe, Int.reduceToNat, e3]
   exact ⟨S', fun _ _ h => h, hK⟩
end Go.Proofs.YtdioedabjaaboaaGreat.V
