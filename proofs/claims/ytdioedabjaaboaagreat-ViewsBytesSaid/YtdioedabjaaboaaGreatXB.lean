/- Views: fields and numbers of texts; sums in two halves. -/
import Derived.Test.YtdioedabjaaboaaGreatXA
set_option linter.unusedVariables false
set_option linter.unusedSimpArgs false
namespace Go.Proofs.YtdioedabjaaboaaGreat.V
open Go Go.VL

def colon (s : ByteArray) (pos : Nat) : Option Nat := if h : pos < s.size then (if (Utf8.decode s pos).1 = 58 then some pos else colon s (pos + (Utf8.decode s pos).2)) else none
termination_by s.size - pos
decreasing_by have := decode_pos s pos; omega
theorem colon_at {s : ByteArray} {pos : Nat} (h : pos < s.size) (hc : (Utf8.decode s pos).1 = 58) : colon s pos = some pos := by rw [colon, dif_pos h, if_pos hc]
theorem colon_no {s : ByteArray} {pos : Nat} (h : pos < s.size) (hc : ¬ (Utf8.decode s pos).1 = 58) : colon s pos = colon s (pos + (Utf8.decode s pos).2) := by rw [colon, dif_pos h, if_neg hc]
theorem colon_end {s : ByteArray} {pos : Nat} (h : ¬ pos < s.size) : colon s pos = none := by rw [colon, dif_neg h]
def fieldOf (name p : ByteArray) : Option ByteArray :=
 match colon p 0 with
 | some i => if same (p.extract 0 i) name then some (p.extract (i + 1) p.size) else none
 | none => none
def fieldF (value name : ByteArray) : Option ByteArray := (partsF value 32).findSome? (fieldOf name)
def encFd : Option ByteArray → PV
 | some x => .tup [.str x, .bool true]
 | none => .tup [.str ⟨#[]⟩, .bool false]
theorem fs_drop {α β : Type} {l : List α} {k : Nat} {x : α} {f : α → Option β} (h : l[k]? = some x) : (l.drop k).findSome? f = (match f x with | some y => some y | none => (l.drop (k + 1)).findSome? f) := by
 rw [drop_cons h, List.findSome?_cons]; cases f x <;> rfl
theorem fs_some {α β : Type} {l : List α} {k : Nat} {x : α} {f : α → Option β} {y : β} (h : l[k]? = some x) (hf : f x = some y) : (l.drop k).findSome? f = some y := by rw [fs_drop h, hf]
theorem fs_none {α β : Type} {l : List α} {k : Nat} {x : α} {f : α → Option β} (h : l[k]? = some x) (hf : f x = none) : (l.drop k).findSome? f = (l.drop (k + 1)).findSome? f := by rw [fs_drop h, hf]
theorem partsL_len (s : ByteArray) (b : Nat) : ∀ (n pos frm : Nat) (cut : Bool) (out : List ByteArray), s.size - pos ≤ n → (partsL s b pos frm cut out).length ≤ out.length + (s.size - pos) + 1 := by
 intro n
 induction n with
 | zero => intro pos frm cut out h; rw [partsL_end (by omega), List.length_append]; simp
 | succ n ih =>
  intro pos frm cut out h
  by_cases hp : pos < s.size
  ·have hd := decode_pos s pos
   by_cases hc : (Utf8.decode s pos).1 = b
   ·rw [partsL_eq hp hc]
    refine Nat.le_trans (ih _ _ _ _ (by omega)) ?_
    rw [List.length_append]; simp only [List.length_cons, List.length_nil]; omega
   ·rw [partsL_ne hp hc]
    exact Nat.le_trans (ih _ _ _ _ (by omega)) (by omega)
  ·rw [partsL_end hp, List.length_append]; simp
theorem extract_len (s : ByteArray) (a b : Nat) : (s.extract a b).size ≤ s.size := by
 rw [ByteArray.size_extract]; omega
theorem partsL_fit (s : ByteArray) (b : Nat) : ∀ (n pos frm : Nat) (cut : Bool) (out : List ByteArray), s.size - pos ≤ n → (∀ p ∈ out, p.size ≤ s.size) → ∀ p ∈ partsL s b pos frm cut out, p.size ≤ s.size := by
 intro n
 induction n with
 | zero =>
  intro pos frm cut out h ho p hp
  rw [partsL_end (by omega), List.mem_append] at hp
  rcases hp with hp | hp
  ·exact ho p hp
  ·rw [List.mem_singleton] at hp; subst hp; exact extract_len _ _ _
 | succ n ih =>
  intro pos frm cut out h ho p hp
  by_cases hpp : pos < s.size
  ·have hd := decode_pos s pos
   by_cases hc : (Utf8.decode s pos).1 = b
   ·rw [partsL_eq hpp hc] at hp
    refine ih _ _ _ _ (by omega) ?_ p hp
    intro q hq
    rw [List.mem_append] at hq
    rcases hq with hq | hq
    ·exact ho q hq
    ·rw [List.mem_singleton] at hq; subst hq; exact extract_len _ _ _
   ·rw [partsL_ne hpp hc] at hp
    exact ih _ _ _ _ (by omega) ho p hp
  ·rw [partsL_end hpp, List.mem_append] at hp
   rcases hp with hp | hp
   ·exact ho p hp
   ·rw [List.mem_singleton] at hp; subst hp; exact extract_len _ _ _
theorem partsF_len (s : ByteArray) (b : Nat) : (partsF s b).length ≤ s.size + 1 := by
 have := partsL_len s b s.size 0 0 false [] (by omega)
 simpa [partsF] using this
theorem partsF_fit (s : ByteArray) (b : Nat) : ∀ p ∈ partsF s b, p.size ≤ s.size := partsL_fit s b s.size 0 0 false [] (by omega) (by simp)
theorem fieldF_fit {v n x : ByteArray} (h : fieldF v n = some x) : x.size ≤ v.size := by
 obtain ⟨p, hp, hx⟩ := List.exists_of_findSome?_eq_some h
 have := partsF_fit _ _ p hp
 unfold fieldOf at hx
 split at hx
 ·split at hx
  ·injection hx with hx; subst hx; exact Nat.le_trans (extract_len _ _ _) this
  ·cases hx
 ·cases hx
theorem Field_spec (v n : ByteArray) (hv : v.size ≤ 1000000) (S : Store) : PRet Tryz.prog 95 [.str v, .str n] S (encFd (fieldF v n)) := by
 intro K hK
 have hlen := partsF_len v 32
 refine pcalls_of (C := C) (fun _ => false) (fun _ => false) Tryz.func95 rfl rfl (by simp [Tryz.f95]) ?_
 simp -implicitDefEqProofs only [go_sem, ↓reduceIte, Nat.reduceEqDiff, Nat.reduceLT, Nat.reduceLeDiff, Nat.reduceAdd, Nat.reduceMul, Nat.reduceSub, reduceCtorEq, Nat.reduceMod, Nat.reduceBEq, Int.reduceBEq, Int.reduceBNe, Int.reduceToNat, Tryz.f95]
 refine Parts_spec v hv 32 _ _ ?_
 have hpf : ∀ p, p ∈ partsF v 32 → p.size ≤ v.size := partsF_fit v 32
 obtain ⟨L, hL⟩ : ∃ L, L = partsF v 32 := ⟨_, rfl⟩
 unfold fieldF at hK
 rw [← hL] at hlen hpf hK ⊢
 simp -implicitDefEqProofs only [go_sem, ↓reduceIte, Nat.reduceEqDiff, Nat.reduceLT, Nat.reduceLeDiff, Nat.reduceAdd, Nat.reduceMul, Nat.reduceSub, reduceCtorEq, Nat.reduceMod, Nat.reduceBEq, Int.reduceBEq, Int.reduceBNe, Int.reduceToNat]
 refine vloop (fun e S' => S' = S ∧ ∃ k : Nat, k ≤ L.length ∧ L.findSome? (fieldOf n) = (L.drop k).findSome? (fieldOf n) ∧ e 1 = .str n ∧ e 11 = .sl .tail 1 (encS L) ∧ e 12 = .int .i64 L.length ∧ e 13 = .int .i64 k) (fun e _ => L.length - iv (e 13)) ?_ ?_
 ·exact ⟨rfl, 0, Nat.zero_le _, rfl, rfl, rfl, rfl, rfl⟩
 ·rintro J M Q' hJ hM hQ e S' ⟨rfl, k, hk, hr, e1, e11, e12, e13⟩
  by_cases hlt : k < L.length
  ·obtain ⟨p, hp⟩ : ∃ p, L[k]? = some p := ⟨L[k], List.getElem?_eq_getElem hlt⟩
   have hp1 : p.size ≤ 1000000 := Nat.le_trans (hpf p (List.mem_of_getElem? hp)) hv
   have hlti : (k : Int) < (L.length : Int) := by omega
   have h0 : (0 : Int) ≤ (k : Int) ∧ (k : Int) < (L.length : Int) := by omega
   have hw : IntKind.i64.wrap ((k : Int) + 1) = ((k + 1 : Nat) : Int) := wrap64 (by omega) (by omega)
   simp -implicitDefEqProofs only [go_sem, ↓reduceIte, Nat.reduceEqDiff, Nat.reduceLT, Nat.reduceLeDiff, Nat.reduceAdd, Nat.reduceMul, Nat.reduceSub, reduceCtorEq, Nat.reduceMod, Nat.reduceBEq, Int.reduceBEq, Int.reduceBNe, Int.reduceToNat, e1, e11, e12, e13, hlti, h0, Int.toNat_natCast, getD_encS hp]
   intro b
   refine vloop (fun e S'' => S'' = S' ∧ ∃ pos : Nat, colon p 0 = colon p pos ∧ e 1 = .str n ∧ e 7 = .str p ∧ e 11 = .sl .tail 1 (encS L) ∧ e 12 = .int .i64 L.length ∧ e 13 = .int .i64 k ∧ e 18 = .siter b p pos) (fun e _ => match e 18 with | .siter _ _ pos => p.size - pos | _ => 0) ?_ ?_
   ·exact ⟨rfl, 0, rfl, by simp -implicitDefEqProofs only [go_sem, ↓reduceIte, Nat.reduceEqDiff, e1], by simp -implicitDefEqProofs only [go_sem, ↓reduceIte, Nat.reduceEqDiff], by simp -implicitDefEqProofs only [go_sem, ↓reduceIte, Nat.reduceEqDiff, e11], by simp -implicitDefEqProofs only [go_sem, ↓reduceIte, Nat.reduceEqDiff, e12], by simp -implicitDefEqProofs only [go_sem, ↓reduceIte, Nat.reduceEqDiff, e13], by simp -implicitDefEqProofs only [go_sem, ↓reduceIte, Nat.reduceEqDiff]⟩
   ·rintro J2 M2 Q2 hJ2 hM2 hQ2 e' S'' ⟨rfl, pos, hc, f1, f7, f11, f12, f13, f18⟩
    by_cases hlt2 : pos < p.size
    ·have hd := decode_pos p pos
     have hi1 : (0 : Int) ≤ (pos : Int) ∧ (pos : Int) ≤ (p.size : Int) := by omega
     by_cases h58 : (Utf8.decode p pos).1 = 58
     ·have hcq : (((Utf8.decode p pos).1 : Int) == 58) = true := by rw [h58]; rfl
      rw [colon_at hlt2 h58] at hc
      have hwp : IntKind.i64.wrap ((pos : Int) + 1) = ((pos + 1 : Nat) : Int) := wrap64 (by omega) (by omega)
      cases hs : same (p.extract 0 pos) n
      ·simp -implicitDefEqProofs only [go_sem, ↓reduceIte, Nat.reduceEqDiff, Nat.reduceLT, Nat.reduceLeDiff, Nat.reduceAdd, Nat.reduceMul, Nat.reduceSub, reduceCtorEq, Nat.reduceMod, Nat.reduceBEq, Int.reduceBEq, Int.reduceBNe, Int.reduceToNat, f1, f7, f11, f12, f13, f18, hlt2, hcq, hi1, Int.le_refl, Int.toNat_natCast, Int.toNat_zero, hs]
       have hfo : fieldOf n p = none := by unfold fieldOf; rw [hc]; simp [hs]
       rw [fs_none hp hfo] at hr
       refine hQ2 _ _ _ ?_
       simp -implicitDefEqProofs only [go_sem, ↓reduceIte, Nat.reduceEqDiff, Nat.reduceLT, Nat.reduceLeDiff, Nat.reduceAdd, Nat.reduceMul, Nat.reduceSub, reduceCtorEq, Nat.reduceMod, Nat.reduceBEq, Int.reduceBEq, Int.reduceBNe, Int.reduceToNat, f1, f11, f12, f13, hw]
       refine vnext hJ hM S'' (fun _ _ h => h) ⟨rfl, k + 1, hlt, hr, ?_, ?_, ?_, ?_⟩ ?_
       ·simp -implicitDefEqProofs only [go_sem, ↓reduceIte, Nat.reduceEqDiff, f1]
       ·simp -implicitDefEqProofs only [go_sem, ↓reduceIte, Nat.reduceEqDiff, f11]
       ·simp -implicitDefEqProofs only [go_sem, ↓reduceIte, Nat.reduceEqDiff, f12]
       ·simp -implicitDefEqProofs only [go_sem, ↓reduceIte, Nat.reduceEqDiff]
       ·simp -implicitDefEqProofs only [go_sem, ↓reduceIte, Nat.reduceEqDiff, e13, Int.toNat_natCast]
        omega
      ·have hi2 : (0 : Int) ≤ ((pos + 1 : Nat) : Int) ∧ ((pos + 1 : Nat) : Int) ≤ (p.size : Int) ∧ (p.size : Int) ≤ (p.size : Int) := by omega
       simp -implicitDefEqProofs only [go_sem, ↓reduceIte, Nat.reduceEqDiff, Nat.reduceLT, Nat.reduceLeDiff, Nat.reduceAdd, Nat.reduceMul, Nat.reduceSub, reduceCtorEq, Nat.reduceMod, Nat.reduceBEq, Int.reduceBEq, Int.reduceBNe, Int.reduceToNat, f1, f7, f11, f12, f13, f18, hlt2, hcq, hi1, Int.le_refl, Int.toNat_natCast, Int.toNat_zero, hs, hwp, hi2]
       have hfo : fieldOf n p = some (p.extract (pos + 1) p.size) := by unfold fieldOf; rw [hc]; simp [hs]
       rw [fs_some hp hfo] at hr
       rw [hr] at hK
       refine hQ2 _ _ _ ?_
       refine hQ _ _ _ ?_
       simp -implicitDefEqProofs only [go_sem, ↓reduceIte, Nat.reduceEqDiff, Nat.reduceLT, Nat.reduceLeDiff, Nat.reduceAdd, Nat.reduceMul, Nat.reduceSub, reduceCtorEq, Nat.reduceMod, Nat.reduceBEq, Int.reduceBEq, Int.reduceBNe, Int.reduceToNat]
       exact ⟨S'', fun _ _ h => h, hK⟩
     ·have hcq : (((Utf8.decode p pos).1 : Int) == 58) = false := by simp; omega
      rw [colon_no hlt2 h58] at hc
      simp -implicitDefEqProofs only [go_sem, ↓reduceIte, Nat.reduceEqDiff, Nat.reduceLT, Nat.reduceLeDiff, Nat.reduceAdd, Nat.reduceMul, Nat.reduceSub, reduceCtorEq, Nat.reduceMod, Nat.reduceBEq, Int.reduceBEq, Int.reduceBNe, Int.reduceToNat, f1, f7, f11, f12, f13, f18, hlt2, hcq]
      refine vnext hJ2 hM2 S'' (fun _ _ h => h) ⟨rfl, pos + (Utf8.decode p pos).2, hc, ?_, ?_, ?_, ?_, ?_, ?_⟩ ?_
      ·simp -implicitDefEqProofs only [go_sem, ↓reduceIte, Nat.reduceEqDiff, f1]
      ·simp -implicitDefEqProofs only [go_sem, ↓reduceIte, Nat.reduceEqDiff, f7]
      ·simp -implicitDefEqProofs only [go_sem, ↓reduceIte, Nat.reduceEqDiff, f11]
      ·simp -implicitDefEqProofs only [go_sem, ↓reduceIte, Nat.reduceEqDiff, f12]
      ·simp -implicitDefEqProofs only [go_sem, ↓reduceIte, Nat.reduceEqDiff, f13]
      ·simp -implicitDefEqProofs only [go_sem, ↓reduceIte, Nat.reduceEqDiff]
      ·simp -implicitDefEqProofs only [go_sem, ↓reduceIte, Nat.reduceEqDiff, f18]
       omega
    ·rw [colon_end hlt2] at hc
     have hfo : fieldOf n p = none := by unfold fieldOf; rw [hc]
     rw [fs_none hp hfo] at hr
     simp -implicitDefEqProofs only [go_sem, ↓reduceIte, Nat.reduceEqDiff, Nat.reduceLT, Nat.reduceLeDiff, Nat.reduceAdd, Nat.reduceMul, Nat.reduceSub, reduceCtorEq, Nat.reduceMod, Nat.reduceBEq, Int.reduceBEq, Int.reduceBNe, Int.reduceToNat, f18, hlt2]
     refine hQ2 _ _ _ ?_
     simp -implicitDefEqProofs only [go_sem, ↓reduceIte, Nat.reduceEqDiff, Nat.reduceLT, Nat.reduceLeDiff, Nat.reduceAdd, Nat.reduceMul, Nat.reduceSub, reduceCtorEq, Nat.reduceMod, Nat.reduceBEq, Int.reduceBEq, Int.reduceBNe, Int.reduceToNat, f1, f11, f12, f13, hw]
     refine vnext hJ hM S'' (fun _ _ h => h) ⟨rfl, k + 1, hlt, hr, ?_, ?_, ?_, ?_⟩ ?_
     ·simp -implicitDefEqProofs only [go_sem, ↓reduceIte, Nat.reduceEqDiff, f1]
     ·simp -implicitDefEqProofs only [go_sem, ↓reduceIte, Nat.reduceEqDiff, f11]
     ·simp -implicitDefEqProofs only [go_sem, ↓reduceIte, Nat.reduceEqDiff, f12]
     ·simp -implicitDefEqProofs only [go_sem, ↓reduceIte, Nat.reduceEqDiff]
     ·simp -implicitDefEqProofs only [go_sem, ↓reduceIte, Nat.reduceEqDiff, e13, Int.toNat_natCast]
      omega
  ·have hnl : ¬ (k : Int) < (L.length : Int) := by omega
   rw [List.drop_of_length_le (by omega)] at hr
   rw [hr] at hK
   simp -implicitDefEqProofs only [go_sem, ↓reduceIte, Nat.reduceEqDiff, Nat.reduceLT, Nat.reduceLeDiff, Nat.reduceAdd, Nat.reduceMul, Nat.reduceSub, reduceCtorEq, Nat.reduceMod, Nat.reduceBEq, Int.reduceBEq, Int.reduceBNe, Int.reduceToNat, e12, e13, hnl]
   refine hQ _ _ _ ?_
   simp -implicitDefEqProofs only [go_sem, ↓reduceIte, Nat.reduceEqDiff, Nat.reduceLT, Nat.reduceLeDiff, Nat.reduceAdd, Nat.reduceMul, Nat.reduceSub, reduceCtorEq, Nat.reduceMod, Nat.reduceBEq, Int.reduceBEq, Int.reduceBNe, Int.reduceToNat]
   exact ⟨S', fun _ _ h => h, hK⟩
end Go.Proofs.YtdioedabjaaboaaGreat.V
