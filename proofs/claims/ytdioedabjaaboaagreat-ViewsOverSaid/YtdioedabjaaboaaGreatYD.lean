/- Views: the document's parts and fields. -/
import Derived.Test.YtdioedabjaaboaaGreatYC
set_option linter.unusedVariables false
set_option linter.unusedSimpArgs false
namespace Go.Proofs.YtdioedabjaaboaaGreat.V
open Go Go.VL

theorem decode_le {s : ByteArray} {i : Nat} (h : i < s.size) : i + (Utf8.decode s i).2 ≤ s.size := by
 unfold Utf8.decode
 dsimp only
 repeat' split
 all_goals (dsimp only; first | omega | (simp only [Bool.and_eq_true, decide_eq_true_eq] at *; omega))
def starts (s : ByteArray) (pos : Nat) : List Nat := if h : pos < s.size then pos :: starts s (pos + (Utf8.decode s pos).2) else []
termination_by s.size - pos
decreasing_by have := decode_pos s pos; omega
theorem starts_lt {s : ByteArray} {pos : Nat} (h : pos < s.size) : starts s pos = pos :: starts s (pos + (Utf8.decode s pos).2) := by rw [starts, dif_pos h]
theorem starts_ge {s : ByteArray} {pos : Nat} (h : ¬ pos < s.size) : starts s pos = [] := by rw [starts, dif_neg h]
def encI (l : List Nat) : List (List PV) := l.map fun (n : Nat) => [PV.int .i64 (n : Int)]
@[go_sem] theorem len_encI (l : List Nat) : (encI l).length = l.length := by simp [encI]
theorem encI_one (l : List Nat) (n : Nat) : encI l ++ [[.int .i64 (n : Int)]] = encI (l ++ [n]) := by simp [encI]
theorem getD_encI {l : List Nat} {k n : Nat} (h : l[k]? = some n) : (encI l).getD k [] = [.int .i64 (n : Int)] := by
 simp [encI, List.getD_eq_getElem?_getD, h]
theorem partsL_cut {s : ByteArray} {b pos frm : Nat} {out : List ByteArray} (hp : pos ≤ s.size) : partsL s b pos frm true out = partsL s b pos pos false out := by
 by_cases h : pos < s.size
 ·by_cases hc : (Utf8.decode s pos).1 = b
  ·rw [partsL_eq h hc, partsL_eq h hc]; rfl
  ·rw [partsL_ne h hc, partsL_ne h hc]; rfl
 ·rw [partsL_end h, partsL_end h]
  have : pos = s.size := by omega
  subst this
  rfl
theorem partsL_app (s : ByteArray) (b : Nat) : ∀ (n pos frm : Nat) (cut : Bool) (out : List ByteArray), s.size - pos ≤ n → partsL s b pos frm cut out = out ++ partsL s b pos frm cut [] ∧ partsL s b pos frm cut [] ≠ [] := by
 intro n
 induction n with
 | zero =>
  intro pos frm cut out h
  rw [partsL_end (by omega), partsL_end (by omega)]
  exact ⟨by simp, by simp⟩
 | succ n ih =>
  intro pos frm cut out h
  by_cases hp : pos < s.size
  ·have hd := decode_pos s pos
   by_cases hc : (Utf8.decode s pos).1 = b
   ·rw [partsL_eq hp hc, partsL_eq hp hc]
    obtain ⟨h1, h2⟩ := ih (pos + (Utf8.decode s pos).2) (if cut then pos else frm) true (out ++ [s.extract (if cut then pos else frm) pos]) (by omega)
    obtain ⟨h3, h4⟩ := ih (pos + (Utf8.decode s pos).2) (if cut then pos else frm) true ([] ++ [s.extract (if cut then pos else frm) pos]) (by omega)
    rw [h1, h3]
    exact ⟨by simp, by simp⟩
   ·rw [partsL_ne hp hc, partsL_ne hp hc]
    exact ih _ _ _ _ (by omega)
  ·rw [partsL_end hp, partsL_end hp]
   exact ⟨by simp, by simp⟩
theorem parts_colon (p : ByteArray) : ∀ (n pos : Nat), p.size - pos ≤ n → pos ≤ p.size → (∃ i, colon p pos = some i ∧ i < p.size ∧ ∃ r, r ≠ [] ∧ partsL p 58 pos 0 false [] = p.extract 0 i :: r) ∨ (colon p pos = none ∧ ∃ x, partsL p 58 pos 0 false [] = [x]) := by
 intro n
 induction n with
 | zero =>
  intro pos h hp
  right
  rw [colon_end (by omega), partsL_end (by omega)]
  exact ⟨rfl, _, rfl⟩
 | succ n ih =>
  intro pos h hp
  by_cases hlt : pos < p.size
  ·have hd := decode_pos p pos
   have hd2 := decode_le hlt
   by_cases hc : (Utf8.decode p pos).1 = 58
   ·left
    rw [colon_at hlt hc, partsL_eq hlt hc]
    obtain ⟨h1, h2⟩ := partsL_app p 58 p.size (pos + (Utf8.decode p pos).2) (if false = true then pos else 0) true ([] ++ [p.extract (if false = true then pos else 0) pos]) (by omega)
    refine ⟨pos, rfl, hlt, _, h2, ?_⟩
    rw [h1]
    rfl
   ·rw [colon_no hlt hc, partsL_ne hlt hc]
    exact ih _ (by omega) hd2
  ·right
   rw [colon_end hlt, partsL_end hlt]
   exact ⟨rfl, _, rfl⟩
set_option maxHeartbeats 4000000 in
theorem RParts_spec (s : ByteArray) (hs : s.size ≤ 1000000) (by_ : Nat) (S : Store) : PRet Tryz.prog 84 [.str s, .int .i32 (by_ : Int)] S (.sl .tail 1 (encS (partsF s by_))) := by
 intro K hK
 refine pcalls_of (C := C) (fun d => d == 5 || d == 18 || d == 22 || d == 7 || d == 35 || d == 52 || d == 4) (fun _ => false) Tryz.func84 rfl rfl (by simp [Tryz.f84]) ?_
 simp -implicitDefEqProofs only [go_sem, ↓reduceIte, Nat.reduceEqDiff, Nat.reduceLT, Nat.reduceLeDiff, Nat.reduceAdd, Nat.reduceMul, Nat.reduceSub, reduceCtorEq, Nat.reduceMod, Nat.reduceBEq, Int.reduceBEq, Int.reduceBNe, Int.reduceToNat, Tryz.f84]
 intro b
 refine vloop (fun e S' => S' = S ∧ ∃ (pos : Nat) (done : List Nat), starts s 0 = done ++ starts s pos ∧ done.length ≤ pos ∧ pos ≤ s.size ∧ e 0 = .str s ∧ e 1 = .int .i32 (by_ : Int) ∧ e 5 = .sl .tail 1 (encI done) ∧ e 6 = .int .i64 0 ∧ e 7 = .sl .tail 1 [] ∧ e 14 = .siter b s pos) (fun e _ => match e 14 with | .siter _ _ pos => s.size - pos | _ => 0) ?_ ?_
 ·exact ⟨rfl, 0, [], rfl, Nat.le_refl _, Nat.zero_le _, by simp -implicitDefEqProofs only [go_sem, ↓reduceIte, Nat.reduceEqDiff], by simp -implicitDefEqProofs only [go_sem, ↓reduceIte, Nat.reduceEqDiff], by simp -implicitDefEqProofs only [go_sem, ↓reduceIte, Nat.reduceEqDiff]; rfl, by simp -implicitDefEqProofs only [go_sem, ↓reduceIte, Nat.reduceEqDiff], by simp -implicitDefEqProofs only [go_sem, ↓reduceIte, Nat.reduceEqDiff], by simp -implicitDefEqProofs only [go_sem, ↓reduceIte, Nat.reduceEqDiff]⟩
 ·rintro J M Q' hJ hM hQ e S' ⟨rfl, pos, done, hr, hdl, hpz, e0, e1, e5, e6, e7, e14⟩
  by_cases hlt : pos < s.size
  ·have hd := decode_pos s pos
   have hd2 := decode_le hlt
   have hap : (done.length + 1) * 8 ≤ 140737488355328 ∧ done.length + 1 ≤ 140737488355328 := by omega
   rw [starts_lt hlt] at hr
   simp -implicitDefEqProofs only [go_sem, ↓reduceIte, Nat.reduceEqDiff, Nat.reduceLT, Nat.reduceLeDiff, Nat.reduceAdd, Nat.reduceMul, Nat.reduceSub, reduceCtorEq, Nat.reduceMod, Nat.reduceBEq, Int.reduceBEq, Int.reduceBNe, Int.reduceToNat, e14, hlt, e0, e1, e5, e6, e7, hap, encI_one]
   refine vnext hJ hM S' (fun _ _ h => h) ⟨rfl, pos + (Utf8.decode s pos).2, done ++ [pos], by rw [hr]; simp, by rw [List.length_append]; simp only [List.length_cons, List.length_nil]; omega, hd2, ?_, ?_, ?_, ?_, ?_, ?_⟩ ?_
   ·simp -implicitDefEqProofs only [go_sem, ↓reduceIte, Nat.reduceEqDiff, e0]
   ·simp -implicitDefEqProofs only [go_sem, ↓reduceIte, Nat.reduceEqDiff, e1]
   ·simp -implicitDefEqProofs only [go_sem, ↓reduceIte, Nat.reduceEqDiff]
   ·simp -implicitDefEqProofs only [go_sem, ↓reduceIte, Nat.reduceEqDiff, e6]
   ·simp -implicitDefEqProofs only [go_sem, ↓reduceIte, Nat.reduceEqDiff, e7]
   ·simp -implicitDefEqProofs only [go_sem, ↓reduceIte, Nat.reduceEqDiff]
   ·simp -implicitDefEqProofs only [go_sem, ↓reduceIte, Nat.reduceEqDiff, e14]
    omega
  ·have hap : (done.length + 1) * 8 ≤ 140737488355328 ∧ done.length + 1 ≤ 140737488355328 := by omega
   have hst : starts s pos = [] := starts_ge hlt
   rw [hst, List.append_nil] at hr
   simp -implicitDefEqProofs only [go_sem, ↓reduceIte, Nat.reduceEqDiff, Nat.reduceLT, Nat.reduceLeDiff, Nat.reduceAdd, Nat.reduceMul, Nat.reduceSub, reduceCtorEq, Nat.reduceMod, Nat.reduceBEq, Int.reduceBEq, Int.reduceBNe, Int.reduceToNat, e14, hlt]
   refine hQ _ _ _ ?_
   simp -implicitDefEqProofs only [go_sem, ↓reduceIte, Nat.reduceEqDiff, Nat.reduceLT, Nat.reduceLeDiff, Nat.reduceAdd, Nat.reduceMul, Nat.reduceSub, reduceCtorEq, Nat.reduceMod, Nat.reduceBEq, Int.reduceBEq, Int.reduceBNe, Int.reduceToNat, e0, e1, e5, hap, encI_one, e6, e7]
   intro b2
   rw [← hr]
   obtain ⟨E, hE⟩ : ∃ E, E = starts s 0 ++ [s.size] := ⟨_, rfl⟩
   rw [← hE]
   refine vloop (fun e S'' => S'' = S' ∧ ∃ (pos k at_ : Nat) (out : List ByteArray), partsF s by_ = partsL s by_ pos at_ false out ∧ E.drop k = starts s pos ++ [s.size] ∧ at_ ≤ pos ∧ pos ≤ s.size ∧ k ≤ pos ∧ out.length ≤ pos ∧ e 0 = .str s ∧ e 1 = .int .i32 (by_ : Int) ∧ e 5 = .sl .tail 1 (encI E) ∧ e 6 = .int .i64 at_ ∧ e 7 = .sl .tail 1 (encS out) ∧ e 9 = .int .i64 k ∧ e 28 = .siter b2 s pos) (fun e _ => match e 28 with | .siter _ _ pos => s.size - pos | _ => 0) ?_ ?_
   ·exact ⟨rfl, 0, 0, 0, [], rfl, hE, Nat.le_refl _, Nat.zero_le _, Nat.le_refl _, Nat.le_refl _, by simp -implicitDefEqProofs only [go_sem, ↓reduceIte, Nat.reduceEqDiff, e0], by simp -implicitDefEqProofs only [go_sem, ↓reduceIte, Nat.reduceEqDiff, e1], by simp -implicitDefEqProofs only [go_sem, ↓reduceIte, Nat.reduceEqDiff], by simp -implicitDefEqProofs only [go_sem, ↓reduceIte, Nat.reduceEqDiff, e6], by simp -implicitDefEqProofs only [go_sem, ↓reduceIte, Nat.reduceEqDiff, e7]; rfl, by simp -implicitDefEqProofs only [go_sem, ↓reduceIte, Nat.reduceEqDiff], by simp -implicitDefEqProofs only [go_sem, ↓reduceIte, Nat.reduceEqDiff]⟩
   ·rintro J2 M2 Q2 hJ2 hM2 hQ2 e2 S2 ⟨rfl, pos, k, at_, out, hr2, hE2, ha, hpz, hk, hol, f0, f1, f5, f6, f7, f9, f28⟩
    by_cases hlt : pos < s.size
    ·have hd := decode_pos s pos
     have hd2 := decode_le hlt
     have hw : IntKind.i64.wrap ((k : Int) + 1) = ((k + 1 : Nat) : Int) := wrap64 (by omega) (by omega)
     rw [starts_lt hlt, List.cons_append] at hE2
     have g0 : E[k]? = some pos := by
      have := congrArg (fun l => l[0]?) hE2
      simpa using this
     have hdk : E.drop (k + 1) = starts s (pos + (Utf8.decode s pos).2) ++ [s.size] := by
      rw [← List.drop_drop, hE2]; rfl
     have g1 : E[k + 1]? = some (pos + (Utf8.decode s pos).2) := by
      have := congrArg (fun l => l[0]?) hdk
      by_cases h2 : pos + (Utf8.decode s pos).2 < s.size
      ·rw [starts_lt h2] at this; simpa using this
      ·rw [starts_ge h2] at this
       have h3 : pos + (Utf8.decode s pos).2 = s.size := by omega
       rw [h3]; simpa using this
     have hkE : k + 1 < E.length := (List.getElem?_eq_some_iff.1 g1).1
     have h0 : (0 : Int) ≤ (k : Int) ∧ (k : Int) < (E.length : Int) := by omega
     have h1 : (0 : Int) ≤ ((k + 1 : Nat) : Int) ∧ ((k + 1 : Nat) : Int) < (E.length : Int) := by omega
     by_cases hc : (Utf8.decode s pos).1 = by_
     ·have hap2 : (out.length + 1) * 16 ≤ 140737488355328 ∧ out.length + 1 ≤ 140737488355328 := by omega
      have hi : (0 : Int) ≤ (at_ : Int) ∧ (at_ : Int) ≤ (pos : Int) ∧ (pos : Int) ≤ (s.size : Int) := by omega
      rw [partsL_eq hlt hc, partsL_cut hd2] at hr2
      simp -implicitDefEqProofs only [go_sem, ↓reduceIte, Nat.reduceEqDiff, Nat.reduceLT, Nat.reduceLeDiff, Nat.reduceAdd, Nat.reduceMul, Nat.reduceSub, reduceCtorEq, Nat.reduceMod, Nat.reduceBEq, Int.reduceBEq, Int.reduceBNe, Int.reduceToNat, f28, hlt, f0, f1, f5, f6, f7, f9, ieq hc, h0, h1, hw, Int.toNat_natCast, getD_encI g0, getD_encI g1, hi, hap2, encS_one]
      refine vnext hJ2 hM2 S2 (fun _ _ h => h) ⟨rfl, pos + (Utf8.decode s pos).2, k + 1, pos + (Utf8.decode s pos).2, out ++ [s.extract at_ pos], hr2, hdk, Nat.le_refl _, hd2, by omega, by rw [List.length_append]; simp only [List.length_cons, List.length_nil]; omega, ?_, ?_, ?_, ?_, ?_, ?_, ?_⟩ ?_
      ·simp -implicitDefEqProofs only [go_sem, ↓reduceIte, Nat.reduceEqDiff, f0]
      ·simp -implicitDefEqProofs only [go_sem, ↓reduceIte, Nat.reduceEqDiff, f1]
      ·simp -implicitDefEqProofs only [go_sem, ↓reduceIte, Nat.reduceEqDiff, f5]
      ·simp -implicitDefEqProofs only [go_sem, ↓reduceIte, Nat.reduceEqDiff]
      ·simp -implicitDefEqProofs only [go_sem, ↓reduceIte, Nat.reduceEqDiff]
      ·simp -implicitDefEqProofs only [go_sem, ↓reduceIte, Nat.reduceEqDiff]
      ·simp -implicitDefEqProofs only [go_sem, ↓reduceIte, Nat.reduceEqDiff]
      ·simp -implicitDefEqProofs only [go_sem, ↓reduceIte, Nat.reduceEqDiff, f28]
       omega
     ·rw [partsL_ne hlt hc] at hr2
      simp -implicitDefEqProofs only [go_sem, ↓reduceIte, Nat.reduceEqDiff, Nat.reduceLT, Nat.reduceLeDiff, Nat.reduceAdd, Nat.reduceMul, Nat.reduceSub, reduceCtorEq, Nat.reduceMod, Nat.reduceBEq, Int.reduceBEq, Int.reduceBNe, Int.reduceToNat, f28, hlt, f0, f1, f5, f6, f7, f9, ine hc, hw]
      refine vnext hJ2 hM2 S2 (fun _ _ h => h) ⟨rfl, pos + (Utf8.decode s pos).2, k + 1, at_, out, hr2, hdk, by omega, hd2, by omega, by omega, ?_, ?_, ?_, ?_, ?_, ?_, ?_⟩ ?_
      ·simp -implicitDefEqProofs only [go_sem, ↓reduceIte, Nat.reduceEqDiff, f0]
      ·simp -implicitDefEqProofs only [go_sem, ↓reduceIte, Nat.reduceEqDiff, f1]
      ·simp -implicitDefEqProofs only [go_sem, ↓reduceIte, Nat.reduceEqDiff, f5]
      ·simp -implicitDefEqProofs only [go_sem, ↓reduceIte, Nat.reduceEqDiff, f6]
      ·simp -implicitDefEqProofs only [go_sem, ↓reduceIte, Nat.reduceEqDiff, f7]
      ·simp -implicitDefEqProofs only [go_sem, ↓reduceIte, Nat.reduceEqDiff]
      ·simp -implicitDefEqProofs only [go_sem, ↓reduceIte, Nat.reduceEqDiff]
      ·simp -implicitDefEqProofs only [go_sem, ↓reduceIte, Nat.reduceEqDiff, f28]
       omega
    ·have hap2 : (out.length + 1) * 16 ≤ 140737488355328 ∧ out.length + 1 ≤ 140737488355328 := by omega
     have hi : (0 : Int) ≤ (at_ : Int) ∧ (at_ : Int) ≤ (s.size : Int) := by omega
     rw [partsL_end hlt] at hr2
     rw [hr2] at hK
     simp -implicitDefEqProofs only [go_sem, ↓reduceIte, Nat.reduceEqDiff, Nat.reduceLT, Nat.reduceLeDiff, Nat.reduceAdd, Nat.reduceMul, Nat.reduceSub, reduceCtorEq, Nat.reduceMod, Nat.reduceBEq, Int.reduceBEq, Int.reduceBNe, Int.reduceToNat, f28, hlt]
     refine hQ2 _ _ _ ?_
     simp -implicitDefEqProofs only [go_sem, ↓reduceIte, Nat.reduceEqDiff, Nat.reduceLT, Nat.reduceLeDiff, Nat.reduceAdd, Nat.reduceMul, Nat.reduceSub, reduceCtorEq, Nat.reduceMod, Nat.reduceBEq, Int.reduceBEq, Int.reduceBNe, Int.reduceToNat, f0, f6, f7, hi, Int.le_refl, hap2, Int.toNat_natCast, encS_one]
     exact ⟨S2, fun _ _ h => h, hK⟩
end Go.Proofs.YtdioedabjaaboaaGreat.V
