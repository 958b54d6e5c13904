/- Views: the document's texts: bytes and runes; numbers. -/
import Derived.Test.YtdioedabjaaboaaGreatYA
set_option linter.unusedVariables false
set_option linter.unusedSimpArgs false
namespace Go.Proofs.YtdioedabjaaboaaGreat.V
open Go Go.VL

def byN (s : ByteArray) (i : Nat) : Nat := (s.data.getD i 0).toNat
theorem byteA_N (s : ByteArray) (i : Nat) : byteA s i = (byN s i : Int) := rfl
theorem get_byN (s : ByteArray) (i : Nat) : (s.get! i).toNat = byN s i := by
 unfold byN
 congr 1
theorem decode_lo {s : ByteArray} {i : Nat} (h : byN s i < 128) : Utf8.decode s i = (byN s i, 1) := by
 unfold Utf8.decode
 simp only [Nat.add_zero, get_byN]
 rw [if_pos h]
theorem decode_hi {s : ByteArray} {i : Nat} (h : ¬ byN s i < 128) : 128 ≤ (Utf8.decode s i).1 := by
 unfold Utf8.decode
 simp only [Nat.add_zero, get_byN, Utf8.runeError]
 rw [if_neg h]
 repeat' split
 all_goals (dsimp only; first | omega | (rename_i h1 h2; simp only [ge_iff_le, Bool.and_eq_true, decide_eq_true_eq] at *; omega) | (simp only [ge_iff_le, Bool.and_eq_true, decide_eq_true_eq] at *; omega))
theorem runes_ok (s : ByteArray) : ∀ (n pos : Nat), s.size - pos ≤ n → (runes s pos).all letterQ = ((List.range s.size).drop pos).all (okB s) ∧ ((runes s pos).all letterQ = true → (runes s pos).length = s.size - pos) := by
 intro n
 induction n with
 | zero =>
  intro pos h
  rw [runes_ge (by omega), List.drop_of_length_le (by simp; omega)]
  exact ⟨rfl, fun _ => by simp; omega⟩
 | succ n ih =>
  intro pos h
  by_cases hp : pos < s.size
  ·rw [runes_lt hp, allR_succ _ _ _ hp, List.all_cons]
   by_cases hb : byN s pos < 128
   ·rw [decode_lo hb]
    obtain ⟨h1, h2⟩ := ih (pos + 1) (by omega)
    have e : letterQ (byN s pos) = okB s pos := by
     unfold letterQ okB
     rw [byteA_N]
     congr 1 <;> (apply decide_eq_decide.2; omega)
    refine ⟨by rw [e, h1], fun ha => ?_⟩
    rw [Bool.and_eq_true] at ha
    rw [List.length_cons, h2 ha.2]
    omega
   ·have h1 := decode_hi hb
    have e1 : letterQ (Utf8.decode s pos).1 = false := by
     unfold letterQ
     rw [decide_eq_false (show ¬ (Utf8.decode s pos).1 ≤ 122 by omega), Bool.and_false]
    have e2 : okB s pos = false := by
     unfold okB
     rw [byteA_N, decide_eq_false (show ¬ (byN s pos : Int) ≤ 122 by omega), Bool.and_false]
    rw [e1, e2]
    exact ⟨rfl, fun h => by cases h⟩
  ·rw [runes_ge hp, List.drop_of_length_le (by simp; omega)]
   exact ⟨rfl, fun _ => by simp; omega⟩
theorem nameB_eq (s : ByteArray) : nameB s = nameQ s := by
 obtain ⟨h1, h2⟩ := runes_ok s s.size 0 (by omega)
 rw [List.drop_zero] at h1
 unfold nameB nameQ allP
 rw [← h1, Nat.zero_add]
 cases ha : (runes s 0).all letterQ with
 | true =>
  have := h2 ha
  rw [Nat.sub_zero] at this
  rw [this, Bool.and_true, Bool.and_true]
 | false => simp only [Bool.and_false]
theorem RName_spec (s : ByteArray) (hs : s.size ≤ 140737488355328) (S : Store) : PRet Tryz.prog 56 [.str s] S (.int .i64 (if nameQ s then 0 else 22)) := by
 rw [← nameB_eq]
 exact RNameB_spec s hs S

/-! ### numbers -/
def dg (c : Nat) : Bool := decide (48 ≤ c) && decide (c ≤ 57)
def bl (s : ByteArray) (p : Nat) : List Nat := (s.data.toList.drop p).map UInt8.toNat
def stp (n c : Nat) : Nat := 10 * n + (c - 48)
def valD (n : Nat) (D : List Nat) : Nat := D.foldl stp n
theorem bl_len (s : ByteArray) (p : Nat) : (bl s p).length = s.size - p := by
 unfold bl
 rw [List.length_map, List.length_drop, Array.length_toList]
 rfl
theorem bl_lt {s : ByteArray} {p : Nat} (h : p < s.size) : bl s p = byN s p :: bl s (p + 1) := by
 have hl : p < s.data.toList.length := by rw [Array.length_toList]; exact h
 have hl' : p < s.data.size := h
 unfold bl
 rw [List.drop_eq_getElem_cons hl, List.map_cons]
 congr 1
 unfold byN
 rw [Array.getD_eq_getD_getElem?, Array.getElem?_eq_getElem hl']
 rfl
theorem bl_ge {s : ByteArray} {p : Nat} (h : ¬ p < s.size) : bl s p = [] := by
 apply List.eq_nil_of_length_eq_zero
 rw [bl_len]; omega
theorem numL_rest (s : ByteArray) (neg : Bool) : ∀ (D : List Nat) (pos n k : Nat), D = bl s pos → 0 < pos → 0 < k → k ≤ 19 → numL s pos neg n k = if D.all dg = true ∧ k + D.length ≤ 19 ∧ (D ≠ [] → n ≠ 0) then some (neg, valD n D, k + D.length) else none
 | [], pos, n, k, hD, hp, hk, hk2 => by
  have hn : ¬ pos < s.size := fun h => by rw [bl_lt h] at hD; cases hD
  rw [numL_end hn, if_pos ⟨rfl, by simpa using hk2, fun h => absurd rfl h⟩]
  rfl
 | c :: D, pos, n, k, hD, hp, hk, hk2 => by
  have hlt : pos < s.size := by
   rcases Nat.lt_or_ge pos s.size with h | h
   ·exact h
   ·rw [bl_ge (by omega)] at hD; cases hD
  rw [bl_lt hlt] at hD
  injection hD with hc hD
  have h1 : ¬ (pos = 0 ∧ (Utf8.decode s pos).1 = 45 ∧ 1 < s.size) := fun h => by omega
  by_cases hb : byN s pos < 128
  ·have hd := decode_lo hb
   rw [← hc] at hd hb
   by_cases h2 : c < 48 ∨ 57 < c ∨ (0 < k ∧ n = 0) ∨ 18 < k
   ·rw [numL_bad hlt h1 (by rw [hd]; exact h2), if_neg]
    rintro ⟨g1, g2, g3⟩
    rw [List.all_cons, Bool.and_eq_true] at g1
    simp only [dg, Bool.and_eq_true, decide_eq_true_eq] at g1
    rw [List.length_cons] at g2
    have := g3 (by simp)
    omega
   ·rw [numL_ok hlt h1 (by rw [hd]; exact h2), hd]
    dsimp only
    rw [numL_rest s neg D (pos + 1) (10 * n + (c - 48)) (k + 1) hD (by omega) (by omega) (by omega)]
    have hdg : dg c = true := by simp only [dg, Bool.and_eq_true, decide_eq_true_eq]; omega
    have hv : valD n (c :: D) = valD (10 * n + (c - 48)) D := rfl
    rw [hv, List.all_cons, hdg, List.length_cons, Bool.true_and, show k + (D.length + 1) = k + 1 + D.length by omega]
    by_cases hA : D.all dg = true ∧ k + 1 + D.length ≤ 19
    ·rw [if_pos ⟨hA.1, hA.2, fun _ => by omega⟩, if_pos ⟨hA.1, hA.2, fun _ => by omega⟩]
    ·rw [if_neg (fun h => hA ⟨h.1, h.2.1⟩), if_neg (fun h => hA ⟨h.1, h.2.1⟩)]
  ·have hd := decode_hi hb
   rw [numL_bad hlt h1 (.inr (.inl (by omega))), if_neg]
   rintro ⟨g1, _⟩
   rw [List.all_cons, Bool.and_eq_true] at g1
   simp only [dg, Bool.and_eq_true, decide_eq_true_eq] at g1
   omega
/-- Digits that a number may have. -/
def okD (D : List Nat) : Bool := decide (1 ≤ D.length) && decide (D.length ≤ 19) && (decide (D.length ≤ 1) || D.headD 0 != 48) && D.all dg
theorem numL_first {s : ByteArray} {neg : Bool} {pos : Nat} (hlt : pos < s.size) (h1 : ¬ (pos = 0 ∧ (Utf8.decode s pos).1 = 45 ∧ 1 < s.size)) : numL s pos neg 0 0 = if okD (bl s pos) = true then some (neg, valD 0 (bl s pos), (bl s pos).length) else none := by
 rw [bl_lt hlt]
 by_cases hb : byN s pos < 128
 ·have hd := decode_lo hb
  by_cases h2 : byN s pos < 48 ∨ 57 < byN s pos
  ·rw [numL_bad hlt h1 (by rw [hd]; rcases h2 with h | h; exact .inl h; exact .inr (.inl h)), if_neg]
   intro g
   simp only [okD, List.all_cons, dg, Bool.and_eq_true, decide_eq_true_eq] at g
   omega
  ·rw [numL_ok hlt h1 (by rw [hd]; dsimp only; omega), hd]
   dsimp only
   rw [numL_rest s neg (bl s (pos + 1)) (pos + 1) _ 1 rfl (by omega) (by omega) (by omega)]
   have hdg : dg (byN s pos) = true := by simp only [dg, Bool.and_eq_true, decide_eq_true_eq]; omega
   have hv : valD 0 (byN s pos :: bl s (pos + 1)) = valD (10 * 0 + (byN s pos - 48)) (bl s (pos + 1)) := rfl
   rw [hv, List.length_cons]
   have hk : okD (byN s pos :: bl s (pos + 1)) = true ↔ ((bl s (pos + 1)).all dg = true ∧ 1 + (bl s (pos + 1)).length ≤ 19 ∧ (bl s (pos + 1) ≠ [] → 10 * 0 + (byN s pos - 48) ≠ 0)) := by
    unfold okD
    simp only [List.all_cons, hdg, Bool.true_and, Bool.and_eq_true, Bool.or_eq_true, decide_eq_true_eq, List.length_cons, List.headD_cons, bne_iff_ne]
    have hne : bl s (pos + 1) ≠ [] ↔ 1 ≤ (bl s (pos + 1)).length := by
     cases bl s (pos + 1) <;> simp
    constructor
    ·rintro ⟨⟨⟨g1, g2⟩, g3⟩, g4⟩
     exact ⟨g4, by omega, fun hx => by have := hne.1 hx; rcases g3 with g3 | g3 <;> omega⟩
    ·rintro ⟨g1, g2, g3⟩
     refine ⟨⟨⟨by omega, by omega⟩, ?_⟩, g1⟩
     by_cases hx : bl s (pos + 1) = []
     ·left; rw [hx]; decide
     ·right; have := g3 hx; omega
   by_cases hA : okD (byN s pos :: bl s (pos + 1)) = true
   ·rw [if_pos hA, if_pos (hk.1 hA), Nat.add_comm 1]
   ·rw [if_neg hA, if_neg (fun h => hA (hk.2 h))]
 ·have hd := decode_hi hb
  rw [numL_bad hlt h1 (.inr (.inl (by omega))), if_neg]
  intro g
  simp only [okD, List.all_cons, dg, Bool.and_eq_true, decide_eq_true_eq] at g
  omega
/-- Where a number's digits begin. -/
def dgs (s : ByteArray) : Nat := if 0 < s.size ∧ byN s 0 = 45 then 1 else 0
def numV (s : ByteArray) : Int :=
 if okD (bl s (dgs s)) = true then
  (if 9223372036854775808 < valD 0 (bl s (dgs s)) then 0 else if dgs s = 1 then -(valD 0 (bl s (dgs s)) : Int) else if valD 0 (bl s (dgs s)) = 9223372036854775808 then 0 else (valD 0 (bl s (dgs s)) : Int))
 else 0
theorem numV_eq (s : ByteArray) : (numF s).1 = numV s := by
 unfold numF numV
 by_cases h0 : 0 < s.size
 ·by_cases h45 : byN s 0 = 45
  ·have hd1 : dgs s = 1 := by unfold dgs; rw [if_pos ⟨h0, h45⟩]
   have hdc : Utf8.decode s 0 = (45, 1) := by rw [decode_lo (by omega), h45]
   rw [hd1]
   by_cases hs1 : 1 < s.size
   ·rw [numL_neg h0 ⟨rfl, by rw [hdc], hs1⟩, hdc]
    dsimp only
    rw [numL_first hs1 (fun h => by omega)]
    by_cases hk : okD (bl s (0 + 1)) = true
    ·have hl : (bl s (0 + 1)).length ≠ 0 := by rw [bl_len]; omega
     rw [if_pos hk, if_pos hk]
     generalize valD 0 (bl s (0 + 1)) = n
     unfold numE
     dsimp only
     simp only [hl, false_or, true_and, if_true]
     by_cases hn0 : n = 0
     ·subst hn0; rfl
     ·rw [if_neg hn0]
      by_cases hb : n ≤ 9223372036854775808
      ·rw [if_pos hb, if_neg (by omega)]
      ·rw [if_neg hb, if_pos (by omega), if_pos (by omega)]
    ·rw [if_neg hk, if_neg hk]; rfl
   ·have hbl : bl s 1 = [] := bl_ge (by omega)
    rw [numL_bad h0 (fun h => by omega) (.inl (by rw [hdc]; decide)), hbl]
    rfl
  ·have hd0 : dgs s = 0 := by unfold dgs; rw [if_neg (fun h => h45 h.2)]
   rw [hd0]
   have hne : ¬ (0 = 0 ∧ (Utf8.decode s 0).1 = 45 ∧ 1 < s.size) := by
    rintro ⟨_, h, _⟩
    by_cases hb : byN s 0 < 128
    ·rw [decode_lo hb] at h; exact h45 h
    ·have := decode_hi hb; omega
   rw [numL_first h0 hne]
   by_cases hk : okD (bl s 0) = true
   ·have hl : (bl s 0).length ≠ 0 := by rw [bl_len]; omega
    rw [if_pos hk, if_pos hk]
    generalize valD 0 (bl s 0) = n
    unfold numE
    dsimp only
    simp only [hl, false_or, Bool.false_eq_true, false_and, if_false]
    by_cases hb : 9223372036854775807 < n
    ·rw [if_pos hb]
     by_cases hc : 9223372036854775808 < n
     ·rw [if_pos hc]
     ·rw [if_neg hc, if_neg (by decide), if_pos (by omega)]
    ·rw [if_neg hb, if_neg (by omega), if_neg (by decide), if_neg (by omega)]
   ·rw [if_neg hk, if_neg hk]; rfl
 ·have hd0 : dgs s = 0 := by unfold dgs; rw [if_neg (fun h => h0 h.1)]
  rw [hd0, bl_ge (by omega), numL_end h0]
  rfl
end Go.Proofs.YtdioedabjaaboaaGreat.V
