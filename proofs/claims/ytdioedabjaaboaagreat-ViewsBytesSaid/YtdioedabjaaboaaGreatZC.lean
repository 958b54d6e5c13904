/- Bytes of views: a number, read by the document. -/
import Derived.Test.YtdioedabjaaboaaGreatZB
set_option linter.unusedVariables false
set_option linter.unusedSimpArgs false
namespace Go.Proofs.YtdioedabjaaboaaGreat.V
open Go Go.VL

theorem encB_drop (l : List UInt8) (k : Nat) : (encB l).drop k = encB (l.drop k) := by simp [encB, List.map_drop]
theorem encB_take (l : List UInt8) (k : Nat) : (encB l).take k = encB (l.take k) := by simp [encB, List.map_take]
def val (l : List UInt8) : Nat := l.foldl (fun n c => 256 * n + c.toNat) 0
theorem val_snoc (l : List UInt8) (c : UInt8) : val (l ++ [c]) = 256 * val l + c.toNat := by simp [val]
theorem val_take {l : List UInt8} {k : Nat} {c : UInt8} (h : l[k]? = some c) : val (l.take (k + 1)) = 256 * val (l.take k) + c.toNat := by
 rw [List.take_add_one, h]
 exact val_snoc _ _
theorem val_acc : ∀ (l : List UInt8) (a : Nat), l.foldl (fun n c => 256 * n + c.toNat) a = a * 256 ^ l.length + val l
 | [], a => by simp [val]
 | c :: l, a => by
  have h1 := val_acc l (256 * a + c.toNat)
  have h2 := val_acc l (256 * 0 + c.toNat)
  unfold val
  rw [List.foldl_cons, List.foldl_cons, h1, h2, List.length_cons, Nat.pow_succ, Nat.add_mul, Nat.mul_zero, Nat.zero_add]
  have : 256 * a * 256 ^ l.length = a * (256 ^ l.length * 256) := by rw [Nat.mul_comm 256 a, Nat.mul_assoc, Nat.mul_comm 256]
  omega
theorem val_cons (c : UInt8) (l : List UInt8) : val (c :: l) = c.toNat * 256 ^ l.length + val l := by
 show (c :: l).foldl _ 0 = _
 rw [List.foldl_cons, val_acc]
 simp
theorem val_lt : ∀ l : List UInt8, val l < 256 ^ l.length
 | [] => by simp [val]
 | c :: l => by
  have h := val_lt l
  have hc := c.toNat_lt
  rw [val_cons, List.length_cons, Nat.pow_succ]
  have : c.toNat * 256 ^ l.length ≤ 255 * 256 ^ l.length := Nat.mul_le_mul_right _ (by omega)
  omega

def rdNum (l : List UInt8) : Nat × Nat × Int :=
 if l.length = 0 then (0, 0, 2) else if 8 < (l.getD 0 0).toNat then (0, 0, 11) else if l.length < (l.getD 0 0).toNat + 1 then (0, 0, 2)
 else if 0 < (l.getD 0 0).toNat ∧ (l.getD 1 0).toNat = 0 then (0, 0, 11) else if (l.getD 0 0).toNat = 8 ∧ 127 < (l.getD 1 0).toNat then (0, 0, 5)
 else (val ((l.drop 1).take (l.getD 0 0).toNat), (l.getD 0 0).toNat + 1, 0)
structure Rd where
 b : List UInt8
 p : Nat
 e : Int
def wcells (s : Rd) : List PV := [.sl .no 1 (encB s.b), .int .i64 s.p, .int .i64 s.e, .bool true]
def rcells (s : Rd) : List PV := [.sl .no 1 (encB s.b), .int .i64 s.p, .int .i64 s.e]
def Rd.Ok (s : Rd) : Prop := s.p ≤ s.b.length ∧ s.b.length ≤ 900000
def rNum (s : Rd) : Nat × Rd :=
 if s.e = 0 then (if (rdNum (s.b.drop s.p)).2.2 = 0 then ((rdNum (s.b.drop s.p)).1, { s with p := s.p + (rdNum (s.b.drop s.p)).2.1 }) else (0, { s with e := (rdNum (s.b.drop s.p)).2.2 })) else (0, s)
def textE (n left most : Nat) (e : Int) : Int := if e = 0 then (if most < n then 4 else if left < n then 2 else 0) else e
def strOf (l : List UInt8) : ByteArray := ⟨l.toArray⟩
def rText (most : Nat) (s : Rd) : ByteArray × Rd :=
 if s.e = 0 then (if textE (rdNum (s.b.drop s.p)).1 (s.b.length - s.p - (rdNum (s.b.drop s.p)).2.1) most (rdNum (s.b.drop s.p)).2.2 = 0
  then (strOf ((s.b.drop (s.p + (rdNum (s.b.drop s.p)).2.1)).take (rdNum (s.b.drop s.p)).1), { s with p := s.p + (rdNum (s.b.drop s.p)).2.1 + (rdNum (s.b.drop s.p)).1 })
  else (⟨#[]⟩, { s with e := textE (rdNum (s.b.drop s.p)).1 (s.b.length - s.p - (rdNum (s.b.drop s.p)).2.1) most (rdNum (s.b.drop s.p)).2.2 })) else (⟨#[]⟩, s)
theorem rdNum_ok {l : List UInt8} (h : (rdNum l).2.2 = 0) : (rdNum l).1 < 9223372036854775808 ∧ (rdNum l).2.1 ≤ l.length := by
 unfold rdNum at h ⊢
 by_cases h0 : l.length = 0
 ·rw [if_pos h0] at h; simp at h
 rw [if_neg h0] at h ⊢
 by_cases h1 : 8 < (l.getD 0 0).toNat
 ·rw [if_pos h1] at h; simp at h
 rw [if_neg h1] at h ⊢
 by_cases h2 : l.length < (l.getD 0 0).toNat + 1
 ·rw [if_pos h2] at h; simp at h
 rw [if_neg h2] at h ⊢
 by_cases h3 : 0 < (l.getD 0 0).toNat ∧ (l.getD 1 0).toNat = 0
 ·rw [if_pos h3] at h; simp at h
 rw [if_neg h3] at h ⊢
 by_cases h4 : (l.getD 0 0).toNat = 8 ∧ 127 < (l.getD 1 0).toNat
 ·rw [if_pos h4] at h; simp at h
 rw [if_neg h4]
 refine ⟨?_, by dsimp only; omega⟩
 dsimp only
 generalize hk : (l.getD 0 0).toNat = k at *
 have hlen : ((l.drop 1).take k).length = k := by rw [List.length_take, List.length_drop]; omega
 rcases Nat.lt_or_ge k 8 with h8 | h8
 ·have := val_lt ((l.drop 1).take k)
  rw [hlen] at this
  have h9 : 256 ^ k ≤ 256 ^ 7 := Nat.pow_le_pow_right (by omega) (by omega)
  omega
 ·have hk8 : k = 8 := by omega
  subst hk8
  rcases l with _ | ⟨a, _ | ⟨c, r⟩⟩
  ·simp at h0
  ·simp at h2
  ·have e1 : (((a :: c :: r).drop 1).take 8) = c :: r.take 7 := rfl
   rw [e1] at hlen ⊢
   have hl7 : (r.take 7).length = 7 := by simpa using hlen
   have := val_lt (r.take 7)
   rw [val_cons, hl7]
   rw [hl7] at this
   have hc : c.toNat ≤ 127 := by
    have e2 : (a :: c :: r).getD 1 0 = c := rfl
    rw [e2] at h4
    omega
   have : c.toNat * 256 ^ 7 ≤ 127 * 256 ^ 7 := Nat.mul_le_mul_right _ hc
   omega
theorem rdNum_lt (l : List UInt8) : (rdNum l).1 < 9223372036854775808 ∧ (rdNum l).2.1 ≤ l.length := by
 by_cases h : (rdNum l).2.2 = 0
 ·exact rdNum_ok h
 ·have : (rdNum l).2.2 = 0 ∨ ((rdNum l).1 = 0 ∧ (rdNum l).2.1 = 0) := by
   unfold rdNum
   repeat' split
   all_goals simp
  rcases this with h' | ⟨h1, h2⟩
  ·exact absurd h' h
  ·rw [h1, h2]
   omega
theorem wrapU8 (c : UInt8) : IntKind.i64.wrap (c.toNat : Int) = (c.toNat : Int) := by
 have := c.toNat_lt
 exact wrap64 (by omega) (by omega)
theorem getD_of {l : List UInt8} {k : Nat} {c : UInt8} (h : l[k]? = some c) : l.getD k 0 = c := by rw [List.getD_eq_getElem?_getD, h]; rfl

set_option maxHeartbeats 2000000 in
theorem rnumber_fn (l : List UInt8) (hl : l.length ≤ 900000) (S : Store) : PRet Tryz.prog 102 [.sl .no 1 (encB l)] S (.tup [.int .i64 (rdNum l).1, .int .i64 (rdNum l).2.1, .int .i64 (rdNum l).2.2]) := by
 intro K hK
 refine pcalls_of (C := C) (fun _ => false) (fun _ => false) Tryz.func102 rfl rfl (by simp [Tryz.f102]) ?_
 have hok := rdNum_lt l
 unfold rdNum at hK hok
 by_cases h0 : l.length = 0
 ·rw [if_pos h0] at hK
  simp -implicitDefEqProofs only [go_sem, ↓reduceIte, Nat.reduceEqDiff, Nat.reduceLT, Nat.reduceLeDiff, Nat.reduceAdd, Nat.reduceMul, Nat.reduceSub, reduceCtorEq, Nat.reduceMod, Nat.reduceBEq, Int.reduceBEq, Int.reduceBNe, Int.reduceToNat, Tryz.f102, h0]
  exact ⟨S, fun _ _ h => h, hK⟩
 rw [if_neg h0] at hK
 obtain ⟨c0, hc0⟩ : ∃ c, l[0]? = some c := ⟨_, List.getElem?_eq_getElem (by omega)⟩
 have g0 := getD_encB hc0
 have b0 : (0 : Int) < (l.length : Int) := by omega
 have z0 : ((l.length : Int) == 0) = false := by rw [beq_eq_false_iff_ne]; omega
 have w0 := wrapU8 c0
 have in0 : (0 : Int) ≤ 0 ∧ (0 : Int) < (l.length : Int) := by omega
 have v0 := c0.toNat_lt
 rw [getD_of hc0] at hK
 by_cases h1 : 8 < c0.toNat
 ·rw [if_pos h1] at hK
  have d1 : (8 : Int) < (c0.toNat : Int) := by omega
  simp -implicitDefEqProofs only [go_sem, ↓reduceIte, Nat.reduceEqDiff, Nat.reduceLT, Nat.reduceLeDiff, Nat.reduceAdd, Nat.reduceMul, Nat.reduceSub, reduceCtorEq, Nat.reduceMod, Nat.reduceBEq, Int.reduceBEq, Int.reduceBNe, Int.reduceToNat, Tryz.f102, h0, z0, in0, b0, g0, w0, d1]
  exact ⟨S, fun _ _ h => h, hK⟩
 rw [if_neg h1] at hK
 have d1 : ¬ (8 : Int) < (c0.toNat : Int) := by omega
 have w2 : IntKind.i64.wrap ((c0.toNat : Int) + 1) = ((c0.toNat + 1 : Nat) : Int) := wrap64 (by omega) (by omega)
 by_cases h2 : l.length < c0.toNat + 1
 ·rw [if_pos h2] at hK
  have d2 : (l.length : Int) < ((c0.toNat + 1 : Nat) : Int) := by omega
  simp -implicitDefEqProofs only [go_sem, ↓reduceIte, Nat.reduceEqDiff, Nat.reduceLT, Nat.reduceLeDiff, Nat.reduceAdd, Nat.reduceMul, Nat.reduceSub, reduceCtorEq, Nat.reduceMod, Nat.reduceBEq, Int.reduceBEq, Int.reduceBNe, Int.reduceToNat, Tryz.f102, h0, z0, in0, b0, g0, w0, d1, w2, d2]
  exact ⟨S, fun _ _ h => h, hK⟩
 rw [if_neg h2] at hK
 have d2 : ¬ (l.length : Int) < ((c0.toNat + 1 : Nat) : Int) := by omega
 by_cases hz : c0.toNat = 0
 ·have d3 : ¬ (0 : Int) < (c0.toNat : Int) := by omega
  have d4 : ((c0.toNat : Int) == 8) = false := by rw [beq_eq_false_iff_ne]; omega
  rw [if_neg (by omega), if_neg (by omega), hz] at hK
  simp -implicitDefEqProofs only [go_sem, ↓reduceIte, Nat.reduceEqDiff, Nat.reduceLT, Nat.reduceLeDiff, Nat.reduceAdd, Nat.reduceMul, Nat.reduceSub, reduceCtorEq, Nat.reduceMod, Nat.reduceBEq, Int.reduceBEq, Int.reduceBNe, Int.reduceToNat, Tryz.f102, h0, z0, in0, b0, g0, w0, d1, w2, d2, d3, d4]
  refine vloop (fun e S' => S' = S ∧ e 6 = .int .i64 0 ∧ e 7 = .int .i64 1 ∧ e 5 = .int .i64 c0.toNat) (fun e _ => 0) ?_ ?_
  ·exact ⟨rfl, rfl, rfl, rfl⟩
  ·rintro J M Q' hJ hM hQ e S' ⟨rfl, e6, e7, e5⟩
   have d5 : ¬ (1 : Int) ≤ (c0.toNat : Int) := by omega
   simp -implicitDefEqProofs only [go_sem, ↓reduceIte, Nat.reduceEqDiff, Nat.reduceLT, Nat.reduceLeDiff, Nat.reduceAdd, Nat.reduceMul, Nat.reduceSub, reduceCtorEq, Nat.reduceMod, Nat.reduceBEq, Int.reduceBEq, Int.reduceBNe, Int.reduceToNat, e6, e7, e5, d5]
   refine hQ _ _ _ ?_
   simp -implicitDefEqProofs only [go_sem, ↓reduceIte, Nat.reduceEqDiff, Nat.reduceLT, Nat.reduceLeDiff, Nat.reduceAdd, Nat.reduceMul, Nat.reduceSub, reduceCtorEq, Nat.reduceMod, Nat.reduceBEq, Int.reduceBEq, Int.reduceBNe, Int.reduceToNat, e6, e7, e5, w2]
   rw [hz]
   exact ⟨S', fun _ _ h => h, hK⟩
 obtain ⟨c1, hc1⟩ : ∃ c, l[1]? = some c := ⟨_, List.getElem?_eq_getElem (by omega)⟩
 have g1 := getD_encB hc1
 have in1 : (0 : Int) ≤ 1 ∧ (1 : Int) < (l.length : Int) := by omega
 have v1 := c1.toNat_lt
 rw [getD_of hc1] at hK
 have d3 : (0 : Int) < (c0.toNat : Int) := by omega
 by_cases h3 : c1.toNat = 0
 ·rw [if_pos ⟨by omega, h3⟩] at hK
  simp -implicitDefEqProofs only [go_sem, ↓reduceIte, Nat.reduceEqDiff, Nat.reduceLT, Nat.reduceLeDiff, Nat.reduceAdd, Nat.reduceMul, Nat.reduceSub, reduceCtorEq, Nat.reduceMod, Nat.reduceBEq, Int.reduceBEq, Int.reduceBNe, Int.reduceToNat, Tryz.f102, h0, z0, in0, b0, g0, w0, d1, w2, d2, d3, in1, g1, h3]
  exact ⟨S, fun _ _ h => h, hK⟩
 rw [if_neg (by omega)] at hK
 have z1 : ((c1.toNat : Int) == 0) = false := by rw [beq_eq_false_iff_ne]; omega
 by_cases h4 : c0.toNat = 8 ∧ 127 < c1.toNat
 ·rw [if_pos h4] at hK
  have z8 : ((c0.toNat : Int) == 8) = true := by rw [h4.1]; rfl
  have d4 : (127 : Int) < (c1.toNat : Int) := by omega
  simp -implicitDefEqProofs only [go_sem, ↓reduceIte, Nat.reduceEqDiff, Nat.reduceLT, Nat.reduceLeDiff, Nat.reduceAdd, Nat.reduceMul, Nat.reduceSub, reduceCtorEq, Nat.reduceMod, Nat.reduceBEq, Int.reduceBEq, Int.reduceBNe, Int.reduceToNat, Tryz.f102, h0, z0, in0, b0, g0, w0, d1, w2, d2, d3, in1, g1, z1, z8, d4]
  exact ⟨S, fun _ _ h => h, hK⟩
 rw [if_neg h4] at hK
 rw [if_neg h0, getD_of hc0, if_neg h1, if_neg h2, getD_of hc1, if_neg (by omega), if_neg h4] at hok
 have hbd : ∀ j, j ≤ c0.toNat → val ((l.drop 1).take j) < 9223372036854775808 := by
  intro j hj
  rcases Nat.lt_or_ge j 8 with h8 | h8
  ·have := val_lt ((l.drop 1).take j)
   have hlen : ((l.drop 1).take j).length ≤ 7 := by rw [List.length_take]; omega
   have h9 : 256 ^ ((l.drop 1).take j).length ≤ 256 ^ 7 := Nat.pow_le_pow_right (by omega) hlen
   omega
  ·rw [show j = c0.toNat by omega]
   exact hok.1
 have hz8 : ((c0.toNat : Int) == 8) = false ∨ (((c0.toNat : Int) == 8) = true ∧ ¬ (127 : Int) < (c1.toNat : Int)) := by
  by_cases h8 : c0.toNat = 8
  ·exact .inr ⟨by rw [h8]; rfl, by omega⟩
  ·exact .inl (by rw [beq_eq_false_iff_ne]; omega)
 rcases hz8 with z8 | ⟨z8, d4⟩
 all_goals
  simp -implicitDefEqProofs only [go_sem, ↓reduceIte, Nat.reduceEqDiff, Nat.reduceLT, Nat.reduceLeDiff, Nat.reduceAdd, Nat.reduceMul, Nat.reduceSub, reduceCtorEq, Nat.reduceMod, Nat.reduceBEq, Int.reduceBEq, Int.reduceBNe, Int.reduceToNat, Tryz.f102, h0, z0, in0, b0, g0, w0, d1, w2, d2, d3, in1, g1, z1, z8]
  try simp -implicitDefEqProofs only [go_sem, ↓reduceIte, Nat.reduceEqDiff, Nat.reduceLT, Nat.reduceLeDiff, Nat.reduceAdd, Nat.reduceMul, Nat.reduceSub, reduceCtorEq, Nat.reduceMod, Nat.reduceBEq, Int.reduceBEq, Int.reduceBNe, Int.reduceToNat, d4]
  refine vloop (fun e S' => S' = S ∧ ∃ j : Nat, j ≤ c0.toNat ∧ e 0 = .sl .no 1 (encB l) ∧ e 5 = .int .i64 c0.toNat ∧ e 6 = .int .i64 (val ((l.drop 1).take j)) ∧ e 7 = .int .i64 ((j + 1 : Nat) : Int)) (fun e _ => 9 - iv (e 7)) ?_ ?_
  ·exact ⟨rfl, 0, Nat.zero_le _, rfl, rfl, rfl, rfl⟩
  ·rintro J M Q' hJ hM hQ e S' ⟨rfl, j, hj, e0, e5, e6, e7⟩
   by_cases hlt : j < c0.toNat
   ·obtain ⟨c, hc⟩ : ∃ c, (l.drop 1)[j]? = some c := ⟨_, List.getElem?_eq_getElem (by rw [List.length_drop]; omega)⟩
    have hv := val_take hc
    have hb1 := hbd (j + 1) hlt
    have hc' : l[j + 1]? = some c := by rw [← hc, List.getElem?_drop, Nat.add_comm]
    have gc := getD_encB hc'
    have d5 : ((j + 1 : Nat) : Int) ≤ (c0.toNat : Int) := by omega
    have inj : (0 : Int) ≤ ((j + 1 : Nat) : Int) ∧ ((j + 1 : Nat) : Int) < (l.length : Int) := by omega
    have wc := wrapU8 c
    have w5 : IntKind.i64.wrap (256 * (val ((l.drop 1).take j) : Int)) = ((256 * val ((l.drop 1).take j) : Nat) : Int) := by rw [wrap64 (by omega) (by omega)]; omega
    have w6 : IntKind.i64.wrap (((256 * val ((l.drop 1).take j) : Nat) : Int) + (c.toNat : Int)) = ((val ((l.drop 1).take (j + 1)) : Nat) : Int) := by rw [wrap64 (by omega) (by omega)]; omega
    have w7 : IntKind.i64.wrap (((j + 1 : Nat) : Int) + 1) = ((j + 1 + 1 : Nat) : Int) := wrap64 (by omega) (by omega)
    simp -implicitDefEqProofs only [go_sem, ↓reduceIte, Nat.reduceEqDiff, Nat.reduceLT, Nat.reduceLeDiff, Nat.reduceAdd, Nat.reduceMul, Nat.reduceSub, reduceCtorEq, Nat.reduceMod, Nat.reduceBEq, Int.reduceBEq, Int.reduceBNe, Int.reduceToNat, e0, e5, e6, e7, d5, inj, gc, wc, w5, w6, w7]
    refine vnext hJ hM S' (fun _ _ h => h) ⟨rfl, j + 1, hlt, ?_, ?_, ?_, ?_⟩ ?_
    ·simp -implicitDefEqProofs only [go_sem, ↓reduceIte, Nat.reduceEqDiff, e0]
    ·simp -implicitDefEqProofs only [go_sem, ↓reduceIte, Nat.reduceEqDiff, e5]
    ·simp -implicitDefEqProofs only [go_sem, ↓reduceIte, Nat.reduceEqDiff]
    ·simp -implicitDefEqProofs only [go_sem, ↓reduceIte, Nat.reduceEqDiff]
    ·simp -implicitDefEqProofs only [go_sem, ↓reduceIte, Nat.reduceEqDiff, e7]
     omega
   ·have hje : j = c0.toNat := by omega
    have d5 : ¬ ((j + 1 : Nat) : Int) ≤ (c0.toNat : Int) := by omega
    subst hje
    simp -implicitDefEqProofs only [go_sem, ↓reduceIte, Nat.reduceEqDiff, Nat.reduceLT, Nat.reduceLeDiff, Nat.reduceAdd, Nat.reduceMul, Nat.reduceSub, reduceCtorEq, Nat.reduceMod, Nat.reduceBEq, Int.reduceBEq, Int.reduceBNe, Int.reduceToNat, e5, e7, d5]
    refine hQ _ _ _ ?_
    simp -implicitDefEqProofs only [go_sem, ↓reduceIte, Nat.reduceEqDiff, Nat.reduceLT, Nat.reduceLeDiff, Nat.reduceAdd, Nat.reduceMul, Nat.reduceSub, reduceCtorEq, Nat.reduceMod, Nat.reduceBEq, Int.reduceBEq, Int.reduceBNe, Int.reduceToNat, e5, e6, w2]
    exact ⟨S', fun _ _ h => h, hK⟩
end Go.Proofs.YtdioedabjaaboaaGreat.V
