/- Bytes of views: the reader. -/
import Derived.Test.YtdioedabjaaboaaGreatZD
set_option linter.unusedVariables false
set_option linter.unusedSimpArgs false
namespace Go.Proofs.YtdioedabjaaboaaGreat.V
open Go Go.VL

theorem wdead_spec {S : Store} {id : Nat} {s : Rd} (hs : S id = some (wcells s)) : PRet Tryz.prog 76 [.ref id 0] S (.bool false) := by
 intro K hK
 refine pcalls_of (C := C) (fun _ => false) (fun _ => false) Tryz.func76 rfl rfl (by simp [Tryz.f76]) ?_
 unfold wcells at hs
 simp -implicitDefEqProofs only [go_sem, ↓reduceIte, Nat.reduceEqDiff, Nat.reduceLT, Nat.reduceLeDiff, Nat.reduceAdd, Nat.reduceMul, Nat.reduceSub, reduceCtorEq, Nat.reduceMod, Nat.reduceBEq, Int.reduceBEq, Int.reduceBNe, Int.reduceToNat, Tryz.f76, hs]
 exact ⟨S, fun _ _ h => h, hK⟩
theorem fail_calls {S : Store} {id : Nat} {s : Rd} (hs : S id = some (wcells s)) (e : Int) (K : PV → Store → Prop) (hK : K (.tup []) (S.set id (some (wcells { s with e := if s.e = 0 then e else s.e })))) : PCalls Tryz.prog 101 [.ref id 0, .int .i64 e] S K := by
 refine pcalls_of (C := C) (fun _ => false) (fun _ => false) Tryz.func101 rfl rfl (by simp [Tryz.f101]) ?_
 have hs' := hs
 unfold wcells at hs'
 by_cases he : s.e = 0
 ·rw [if_pos he] at hK
  unfold wcells at hK
  simp -implicitDefEqProofs only [go_sem, ↓reduceIte, Nat.reduceEqDiff, Nat.reduceLT, Nat.reduceLeDiff, Nat.reduceAdd, Nat.reduceMul, Nat.reduceSub, reduceCtorEq, Nat.reduceMod, Nat.reduceBEq, Int.reduceBEq, Int.reduceBNe, Int.reduceToNat, Tryz.f101, hs', (zz he).2, psplice]
  exact ⟨_, fun _ _ h => h, hK⟩
 ·rw [if_neg he] at hK
  rw [show ({ s with e := s.e } : Rd) = s from rfl, set_eta hs] at hK
  simp -implicitDefEqProofs only [go_sem, ↓reduceIte, Nat.reduceEqDiff, Nat.reduceLT, Nat.reduceLeDiff, Nat.reduceAdd, Nat.reduceMul, Nat.reduceSub, reduceCtorEq, Nat.reduceMod, Nat.reduceBEq, Int.reduceBEq, Int.reduceBNe, Int.reduceToNat, Tryz.f101, hs', (nz he).2]
  exact ⟨_, fun _ _ h => h, hK⟩
def wBytes (s : Rd) (n : Nat) : List UInt8 × Rd := if s.e = 0 then (if s.b.length - s.p < n then ([], { s with e := 2 }) else ((s.b.drop s.p).take n, { s with p := s.p + n })) else ([], s)

set_option maxHeartbeats 1000000 in
theorem bytes_calls {S : Store} {id : Nat} {s : Rd} (hs : S id = some (wcells s)) (ok : s.Ok) (n : Nat) (K : PV → Store → Prop) (hK : ∀ fl, K (.sl fl 1 (encB (wBytes s n).1)) (S.set id (some (wcells (wBytes s n).2)))) : PCalls Tryz.prog 100 [.ref id 0, .int .i64 n] S K := by
 refine pcalls_of (C := C) (fun _ => false) (fun _ => false) Tryz.func100 rfl rfl (by simp [Tryz.f100]) ?_
 have hs' := hs
 unfold wcells at hs'
 unfold wBytes at hK
 have ho := ok.1
 have ho2 := ok.2
 have w1 : IntKind.i64.wrap ((s.b.length : Int) - (s.p : Int)) = ((s.b.length - s.p : Nat) : Int) := by rw [wrap64 (by omega) (by omega)]; omega
 by_cases he : s.e = 0
 ·rw [if_pos he] at hK
  by_cases h1 : s.b.length - s.p < n
  ·rw [if_pos h1] at hK
   have d1 : ((s.b.length - s.p : Nat) : Int) < (n : Int) := by omega
   simp -implicitDefEqProofs only [go_sem, ↓reduceIte, Nat.reduceEqDiff, Nat.reduceLT, Nat.reduceLeDiff, Nat.reduceAdd, Nat.reduceMul, Nat.reduceSub, reduceCtorEq, Nat.reduceMod, Nat.reduceBEq, Int.reduceBEq, Int.reduceBNe, Int.reduceToNat, Tryz.f100]
   refine vwp_draw (by decide +kernel) ?_
   simp -implicitDefEqProofs only [go_sem, ↓reduceIte, Nat.reduceEqDiff, Nat.reduceLT, Nat.reduceLeDiff, Nat.reduceAdd, Nat.reduceMul, Nat.reduceSub, reduceCtorEq, Nat.reduceMod, Nat.reduceBEq, Int.reduceBEq, Int.reduceBNe, Int.reduceToNat, hs', (zz he).2, w1, d1]
   refine fail_calls hs _ _ ?_
   rw [if_pos he]
   have h2 : (S.set id (some (wcells { s with e := 2 }))) id = some [.sl .no 1 (encB s.b), .int .i64 s.p, .int .i64 2, .bool true] := by simp [Store.set, wcells]
   have z2 : ((2 : Int) != 0) = true := rfl
   simp -implicitDefEqProofs only [go_sem, ↓reduceIte, Nat.reduceEqDiff, Nat.reduceLT, Nat.reduceLeDiff, Nat.reduceAdd, Nat.reduceMul, Nat.reduceSub, reduceCtorEq, Nat.reduceMod, Nat.reduceBEq, Int.reduceBEq, Int.reduceBNe, Int.reduceToNat, h2, z2]
   exact ⟨_, fun _ _ h => h, hK _⟩
  ·rw [if_neg h1] at hK
   have d1 : ¬ ((s.b.length - s.p : Nat) : Int) < (n : Int) := by omega
   have w2 : IntKind.i64.wrap ((s.p : Int) + (n : Int)) = ((s.p + n : Nat) : Int) := wrap64 (by omega) (by omega)
   have w3 : IntKind.i64.wrap (((s.p + n : Nat) : Int) - (n : Int)) = (s.p : Int) := by rw [wrap64 (by omega) (by omega)]; omega
   have bd2 : (0 : Int) ≤ (s.p : Int) ∧ (s.p : Int) ≤ ((s.p + n : Nat) : Int) ∧ ((s.p + n : Nat) : Int) ≤ (s.b.length : Int) := by omega
   have hnn : s.p + n - s.p = n := by omega
   unfold wcells at hK
   simp -implicitDefEqProofs only [go_sem, ↓reduceIte, Nat.reduceEqDiff, Nat.reduceLT, Nat.reduceLeDiff, Nat.reduceAdd, Nat.reduceMul, Nat.reduceSub, reduceCtorEq, Nat.reduceMod, Nat.reduceBEq, Int.reduceBEq, Int.reduceBNe, Int.reduceToNat, Tryz.f100]
   refine vwp_draw (by decide +kernel) ?_
   simp -implicitDefEqProofs only [go_sem, ↓reduceIte, Nat.reduceEqDiff, Nat.reduceLT, Nat.reduceLeDiff, Nat.reduceAdd, Nat.reduceMul, Nat.reduceSub, reduceCtorEq, Nat.reduceMod, Nat.reduceBEq, Int.reduceBEq, Int.reduceBNe, Int.reduceToNat, hs', (zz he).2, w1, d1, (zz he).1, w2, psplice]
   refine vwp_draw (by decide +kernel) ?_
   simp -implicitDefEqProofs only [go_sem, ↓reduceIte, Nat.reduceEqDiff, Nat.reduceLT, Nat.reduceLeDiff, Nat.reduceAdd, Nat.reduceMul, Nat.reduceSub, reduceCtorEq, Nat.reduceMod, Nat.reduceBEq, Int.reduceBEq, Int.reduceBNe, Int.reduceToNat, set_same, w3, bd2, hnn, encB_drop, encB_take]
   exact ⟨_, fun _ _ h => h, hK _⟩
 ·rw [if_neg he, set_eta hs] at hK
  simp -implicitDefEqProofs only [go_sem, ↓reduceIte, Nat.reduceEqDiff, Nat.reduceLT, Nat.reduceLeDiff, Nat.reduceAdd, Nat.reduceMul, Nat.reduceSub, reduceCtorEq, Nat.reduceMod, Nat.reduceBEq, Int.reduceBEq, Int.reduceBNe, Int.reduceToNat, Tryz.f100]
  refine vwp_draw (by decide +kernel) ?_
  simp -implicitDefEqProofs only [go_sem, ↓reduceIte, Nat.reduceEqDiff, Nat.reduceLT, Nat.reduceLeDiff, Nat.reduceAdd, Nat.reduceMul, Nat.reduceSub, reduceCtorEq, Nat.reduceMod, Nat.reduceBEq, Int.reduceBEq, Int.reduceBNe, Int.reduceToNat, hs', (nz he).2, (nz he).1]
  exact ⟨_, fun _ _ h => h, hK _⟩

theorem shl8 (n : Nat) (h : n * 256 < 18446744073709551616) (k : IntKind) : pbin .shl (.int .u64 (n : Int)) (.int k 8) = some (.int .u64 ((n * 256 : Nat) : Int)) := by
 have h1 : min ((8 : Int)).toNat IntKind.u64.bits = 8 := by decide
 unfold pbin
 dsimp only
 rw [if_neg (by decide), h1, wrapu64 (by omega) (by omega)]
 congr 2
theorem or8 (m c : Nat) (hc : c < 256) (h : m * 256 + c < 18446744073709551616) : IntKind.u64.wrap (BitVec.ofInt 64 ((m * 256 : Nat) : Int) ||| BitVec.ofInt 64 (c : Int)).toNat = ((256 * m + c : Nat) : Int) := by
 have a1 : m * 256 < 2 ^ 64 := Nat.lt_of_le_of_lt (Nat.le_add_right _ c) h
 have a2 : c < 2 ^ 64 := Nat.lt_of_lt_of_le hc (by decide)
 have h1 : (BitVec.ofInt 64 ((m * 256 : Nat) : Int) ||| BitVec.ofInt 64 (c : Int)).toNat = m * 256 + c := by
  rw [BitVec.ofInt_natCast, BitVec.ofInt_natCast, BitVec.toNat_or, BitVec.toNat_ofNat, BitVec.toNat_ofNat, Nat.mod_eq_of_lt a1, Nat.mod_eq_of_lt a2]
  have := Nat.shiftLeft_add_eq_or_of_lt (i := 8) (b := c) (by omega) m
  rw [Nat.shiftLeft_eq] at this
  exact this.symm
 rw [h1, wrapu64 (by omega) (by omega)]
 omega
theorem rdNum_of {l : List UInt8} {c0 : UInt8} (h0 : l.length ≠ 0) (hc : l[0]? = some c0) : rdNum l = if 8 < c0.toNat then (0, 0, 11) else if l.length < c0.toNat + 1 then (0, 0, 2) else if 0 < c0.toNat ∧ (l.getD 1 0).toNat = 0 then (0, 0, 11) else if c0.toNat = 8 ∧ 127 < (l.getD 1 0).toNat then (0, 0, 5) else (val ((l.drop 1).take c0.toNat), c0.toNat + 1, 0) := by
 unfold rdNum
 rw [if_neg h0, getD_of hc]
theorem wrapU8u (c : UInt8) : IntKind.u64.wrap (c.toNat : Int) = (c.toNat : Int) := by
 have := c.toNat_lt
 exact wrapu64 (by omega) (by omega)

set_option maxHeartbeats 2000000 in
theorem wNum_calls {S : Store} {id : Nat} {s : Rd} (hs : S id = some (wcells s)) (ok : s.Ok) (K : PV → Store → Prop) (hK : K (.int .i64 (rNum s).1) (S.set id (some (wcells (rNum s).2)))) : PCalls Tryz.prog 74 [.ref id 0] S K := by
 refine pcalls_of (C := C) (fun _ => false) (fun _ => false) Tryz.func74 rfl rfl (by simp [Tryz.f74]) ?_
 have hs' := hs
 unfold wcells at hs'
 have ho := ok.1
 have ho2 := ok.2
 unfold rNum at hK
 simp -implicitDefEqProofs only [go_sem, ↓reduceIte, Nat.reduceEqDiff, Nat.reduceLT, Nat.reduceLeDiff, Nat.reduceAdd, Nat.reduceMul, Nat.reduceSub, reduceCtorEq, Nat.reduceMod, Nat.reduceBEq, Int.reduceBEq, Int.reduceBNe, Int.reduceToNat, Tryz.f74]
 refine wdead_spec hs _ ?_
 simp -implicitDefEqProofs only [go_sem, ↓reduceIte, Nat.reduceEqDiff, Nat.reduceLT, Nat.reduceLeDiff, Nat.reduceAdd, Nat.reduceMul, Nat.reduceSub, reduceCtorEq, Nat.reduceMod, Nat.reduceBEq, Int.reduceBEq, Int.reduceBNe, Int.reduceToNat, hs']
 refine bytes_calls hs ok 1 _ ?_
 intro fl
 unfold wBytes
 have e00 : ((0 : Int) == 0) = true := rfl
 have e10 : ((((1 : Nat) : Int)) == 0) = false := rfl
 by_cases he : s.e = 0
 ·rw [if_pos he] at hK
  rw [if_pos he]
  by_cases h0 : s.b.length - s.p < 1
  ·rw [if_pos h0]
   have hr : rdNum (s.b.drop s.p) = (0, 0, 2) := by unfold rdNum; rw [if_pos (by rw [List.length_drop]; omega)]
   rw [hr, if_neg (by decide)] at hK
   simp -implicitDefEqProofs only [go_sem, ↓reduceIte, Nat.reduceEqDiff, Nat.reduceLT, Nat.reduceLeDiff, Nat.reduceAdd, Nat.reduceMul, Nat.reduceSub, reduceCtorEq, Nat.reduceMod, Nat.reduceBEq, Int.reduceBEq, Int.reduceBNe, Int.reduceToNat, encB_nil, e00]
   exact ⟨_, fun _ _ h => h, hK⟩
  ·rw [if_neg h0]
   obtain ⟨c0, hc0⟩ : ∃ c, (s.b.drop s.p)[0]? = some c := ⟨_, List.getElem?_eq_getElem (by rw [List.length_drop]; omega)⟩
   have ht1 : (s.b.drop s.p).take 1 = [c0] := by rw [List.take_one, List.head?_eq_getElem?, hc0]; rfl
   have hr0 : (s.b.drop s.p).length ≠ 0 := by rw [List.length_drop]; omega
   have hr1 := rdNum_of hr0 hc0
   have v0 := c0.toNat_lt
   have g0 : (encB [c0]).getD 0 [] = [.int .u8 (c0.toNat : Int)] := rfl
   have hl1 : (encB [c0]).length = 1 := rfl
   have in0 : (0 : Int) ≤ 0 ∧ (0 : Int) < ((1 : Nat) : Int) := by decide
   rw [ht1]
   have hs2 : (S.set id (some (wcells { s with p := s.p + 1 }))) id = some (wcells { s with p := s.p + 1 }) := set_at _ _ _
   by_cases h1 : 8 < c0.toNat
   ·rw [if_pos h1] at hr1
    rw [hr1, if_neg (by decide)] at hK
    have d1 : (8 : Int) < (c0.toNat : Int) := by omega
    simp -implicitDefEqProofs only [go_sem, ↓reduceIte, Nat.reduceEqDiff, Nat.reduceLT, Nat.reduceLeDiff, Nat.reduceAdd, Nat.reduceMul, Nat.reduceSub, reduceCtorEq, Nat.reduceMod, Nat.reduceBEq, Int.reduceBEq, Int.reduceBNe, Int.reduceToNat, hl1, e10, g0, in0, d1, wcells, psplice]
    refine fail_calls (s := s) (by rw [set_at]; rfl) _ _ ?_
    rw [if_pos he]
    simp -implicitDefEqProofs only [go_sem, ↓reduceIte, Nat.reduceEqDiff, Nat.reduceLT, Nat.reduceLeDiff, Nat.reduceAdd, Nat.reduceMul, Nat.reduceSub, reduceCtorEq, Nat.reduceMod, Nat.reduceBEq, Int.reduceBEq, Int.reduceBNe, Int.reduceToNat]
    exact ⟨_, fun _ _ h => h, hK⟩
   ·rw [if_neg h1] at hr1
    have d1 : ¬ (8 : Int) < (c0.toNat : Int) := by omega
    have wc := wrapU8 c0
    simp -implicitDefEqProofs only [go_sem, ↓reduceIte, Nat.reduceEqDiff, Nat.reduceLT, Nat.reduceLeDiff, Nat.reduceAdd, Nat.reduceMul, Nat.reduceSub, reduceCtorEq, Nat.reduceMod, Nat.reduceBEq, Int.reduceBEq, Int.reduceBNe, Int.reduceToNat, hl1, e10, g0, in0, d1, wc]
    refine bytes_calls hs2 ⟨by dsimp only; omega, ho2⟩ c0.toNat _ ?_
    intro fl2
    rw [set_set]
    have key : ∃ l s2, wBytes { s with p := s.p + 1 } c0.toNat = (l, s2) ∧ l.length ≤ 8 ∧
      ((s2 = { s with p := s.p + 1, e := 2 } ∧ l = [] ∧ rdNum (s.b.drop s.p) = (0, 0, 2)) ∨
      (s2 = { s with p := s.p + (c0.toNat + 1) } ∧ l.length = c0.toNat ∧ rdNum (s.b.drop s.p) = if 0 < c0.toNat ∧ (l.getD 0 0).toNat = 0 then (0, 0, 11) else if c0.toNat = 8 ∧ 127 < (l.getD 0 0).toNat then (0, 0, 5) else (val l, c0.toNat + 1, 0))) := by
     unfold wBytes
     dsimp only
     rw [if_pos he]
     by_cases h2 : s.b.length - (s.p + 1) < c0.toNat
     ·rw [if_pos h2]
      rw [if_pos (by rw [List.length_drop]; omega)] at hr1
      exact ⟨_, _, rfl, by simp, .inl ⟨rfl, rfl, hr1⟩⟩
     ·rw [if_neg h2]
      rw [if_neg (by rw [List.length_drop]; omega)] at hr1
      have hd : (s.b.drop s.p).drop 1 = s.b.drop (s.p + 1) := by rw [List.drop_drop]
      have hln : ((s.b.drop (s.p + 1)).take c0.toNat).length = c0.toNat := by rw [List.length_take, List.length_drop]; omega
      refine ⟨_, _, rfl, by rw [hln]; omega, .inr ⟨by rw [Nat.add_assoc, Nat.add_comm 1], hln, ?_⟩⟩
      rw [hd] at hr1
      rcases Nat.eq_zero_or_pos c0.toNat with hz | hz
      ·rw [hr1, if_neg (by omega), if_neg (by omega), if_neg (by omega), if_neg (by omega)]
      ·have hg : (s.b.drop s.p).getD 1 0 = ((s.b.drop (s.p + 1)).take c0.toNat).getD 0 0 := by
        rw [List.getD_eq_getElem?_getD, List.getD_eq_getElem?_getD, List.getElem?_take_of_lt hz, List.getElem?_drop, List.getElem?_drop]
       rw [hr1, hg]
    obtain ⟨l, s2, hl2, hlen, hcase⟩ := key
    rw [hl2]
    dsimp only
    simp -implicitDefEqProofs only [go_sem, ↓reduceIte, Nat.reduceEqDiff, Nat.reduceLT, Nat.reduceLeDiff, Nat.reduceAdd, Nat.reduceMul, Nat.reduceSub, reduceCtorEq, Nat.reduceMod, Nat.reduceBEq, Int.reduceBEq, Int.reduceBNe, Int.reduceToNat]
    refine vloop (fun e S' => S' = S.set id (some (wcells s2)) ∧ ∃ j : Nat, j ≤ l.length ∧ e 0 = .ref id 0 ∧ e 3 = .int .i64 s.p ∧ e 5 = .int .u64 (val (l.take j)) ∧ e 6 = .sl .no 1 (encB l) ∧ e 36 = .sl .no 1 (encB l) ∧ e 37 = .int .i64 l.length ∧ e 38 = .int .i64 j) (fun e _ => 9 - iv (e 38)) ?_ ?_
    ·exact ⟨rfl, 0, Nat.zero_le _, rfl, rfl, rfl, rfl, rfl, rfl, rfl⟩
    ·rintro J M Q' hJ hM hQ e S' ⟨rfl, j, hj, e0, e3, e5, e6, e36, e37, e38⟩
     by_cases hlt : j < l.length
     ·obtain ⟨c, hc⟩ : ∃ c, l[j]? = some c := ⟨_, List.getElem?_eq_getElem hlt⟩
      have hv := val_take hc
      have hb1 := val_lt (l.take j)
      have h7 : (l.take j).length ≤ 7 := by rw [List.length_take]; omega
      have h9 : 256 ^ (l.take j).length ≤ 256 ^ 7 := Nat.pow_le_pow_right (by omega) h7
      have hc8 := c.toNat_lt
      have d5 : (j : Int) < (l.length : Int) := by omega
      have inj : (0 : Int) ≤ (j : Int) ∧ (j : Int) < (l.length : Int) := by omega
      have gc := getD_encB hc
      have wcu := wrapU8u c
      have hsh := shl8 (val (l.take j)) (by omega)
      have hor := or8 (val (l.take j)) c.toNat (by omega) (by omega)
      have w7 : IntKind.i64.wrap ((j : Int) + 1) = ((j + 1 : Nat) : Int) := wrap64 (by omega) (by omega)
      simp -implicitDefEqProofs only [go_sem, ↓reduceIte, Nat.reduceEqDiff, Nat.reduceLT, Nat.reduceLeDiff, Nat.reduceAdd, Nat.reduceMul, Nat.reduceSub, reduceCtorEq, Nat.reduceMod, Nat.reduceBEq, Int.reduceBEq, Int.reduceBNe, Int.reduceToNat, e0, e3, e5, e6, e36, e37, e38, d5, inj, gc, wcu, hsh, hor, w7]
      refine vnext hJ hM _ (fun _ _ h => h) ⟨rfl, j + 1, hlt, ?_, ?_, ?_, ?_, ?_, ?_, ?_⟩ ?_
      ·simp -implicitDefEqProofs only [go_sem, ↓reduceIte, Nat.reduceEqDiff, e0]
      ·simp -implicitDefEqProofs only [go_sem, ↓reduceIte, Nat.reduceEqDiff, e3]
      ·simp -implicitDefEqProofs only [go_sem, ↓reduceIte, Nat.reduceEqDiff]
       rw [hv]
       exact congrArg (PV.int .u64) hor
      ·simp -implicitDefEqProofs only [go_sem, ↓reduceIte, Nat.reduceEqDiff, e6]
      ·simp -implicitDefEqProofs only [go_sem, ↓reduceIte, Nat.reduceEqDiff, e36]
      ·simp -implicitDefEqProofs only [go_sem, ↓reduceIte, Nat.reduceEqDiff, e37]
      ·simp -implicitDefEqProofs only [go_sem, ↓reduceIte, Nat.reduceEqDiff]
      ·simp -implicitDefEqProofs only [go_sem, ↓reduceIte, Nat.reduceEqDiff, e38]
       omega
     ·have hje : j = l.length := by omega
      have d5 : ¬ (j : Int) < (l.length : Int) := by omega
      rw [hje, List.take_of_length_le (Nat.le_refl _)] at e5
      simp -implicitDefEqProofs only [go_sem, ↓reduceIte, Nat.reduceEqDiff, Nat.reduceLT, Nat.reduceLeDiff, Nat.reduceAdd, Nat.reduceMul, Nat.reduceSub, reduceCtorEq, Nat.reduceMod, Nat.reduceBEq, Int.reduceBEq, Int.reduceBNe, Int.reduceToNat, e37, e38, d5]
      refine hQ _ _ _ ?_
      have e2z : ((2 : Int) != 0) = true := rfl
      rcases hcase with ⟨rfl, rfl, hr⟩ | ⟨rfl, hll, hr⟩
      ·rw [hr, if_neg (by decide)] at hK
       unfold wcells at hK
       simp -implicitDefEqProofs only [go_sem, ↓reduceIte, Nat.reduceEqDiff, Nat.reduceLT, Nat.reduceLeDiff, Nat.reduceAdd, Nat.reduceMul, Nat.reduceSub, reduceCtorEq, Nat.reduceMod, Nat.reduceBEq, Int.reduceBEq, Int.reduceBNe, Int.reduceToNat, e0, e3, wcells, e2z, psplice]
       exact ⟨_, fun _ _ h => h, hK⟩
      ·have zn := (zz he).1
       by_cases h3 : 0 < c0.toNat ∧ (l.getD 0 0).toNat = 0
       ·rw [if_pos h3] at hr
        rw [hr, if_neg (by decide)] at hK
        obtain ⟨c1, hc1⟩ : ∃ c, l[0]? = some c := ⟨_, List.getElem?_eq_getElem (by omega)⟩
        rw [getD_of hc1] at h3
        have g1 := getD_encB hc1
        have d6 : (0 : Int) < (l.length : Int) := by omega
        have in6 : (0 : Int) ≤ 0 ∧ (0 : Int) < (l.length : Int) := by omega
        have z6 : ((c1.toNat : Int) == 0) = true := by rw [h3.2]; rfl
        simp -implicitDefEqProofs only [go_sem, ↓reduceIte, Nat.reduceEqDiff, Nat.reduceLT, Nat.reduceLeDiff, Nat.reduceAdd, Nat.reduceMul, Nat.reduceSub, reduceCtorEq, Nat.reduceMod, Nat.reduceBEq, Int.reduceBEq, Int.reduceBNe, Int.reduceToNat, e0, e3, e6, wcells, zn, d6, in6, g1, z6]
        refine fail_calls (s := { s with p := s.p + (c0.toNat + 1) }) (set_at _ _ _) _ _ ?_
        dsimp only
        rw [if_pos he, set_set]
        have e11z : ((11 : Int) != 0) = true := rfl
        unfold wcells at hK
        simp -implicitDefEqProofs only [go_sem, ↓reduceIte, Nat.reduceEqDiff, Nat.reduceLT, Nat.reduceLeDiff, Nat.reduceAdd, Nat.reduceMul, Nat.reduceSub, reduceCtorEq, Nat.reduceMod, Nat.reduceBEq, Int.reduceBEq, Int.reduceBNe, Int.reduceToNat, e0, e3, wcells, e11z, psplice]
        exact ⟨_, fun _ _ h => h, hK⟩
       ·rw [if_neg h3] at hr
        have hz6 : ¬ (0 : Int) < (l.length : Int) ∨ ((0 : Int) < (l.length : Int) ∧ ∃ c1, l[0]? = some c1 ∧ ((c1.toNat : Int) == 0) = false) := by
         rcases Nat.eq_zero_or_pos l.length with h | h
         ·exact .inl (by omega)
         ·obtain ⟨c1, hc1⟩ : ∃ c, l[0]? = some c := ⟨_, List.getElem?_eq_getElem (by omega)⟩
          rw [getD_of hc1] at h3
          exact .inr ⟨by omega, c1, hc1, by rw [beq_eq_false_iff_ne]; omega⟩
        have hval : (c0.toNat = 8 ∧ 127 < (l.getD 0 0).toNat) ↔ 9223372036854775807 < val l := by
         rcases l with _ | ⟨a, r⟩
         ·simp at hll
          have : val [] = 0 := rfl
          rw [this]
          omega
         ·have hg : (a :: r).getD 0 0 = a := rfl
          rw [hg, val_cons]
          have hrl := val_lt r
          rw [List.length_cons] at hll
          rcases Nat.lt_or_ge c0.toNat 8 with h8 | h8
          ·have h9 : 256 ^ r.length ≤ 256 ^ 6 := Nat.pow_le_pow_right (by omega) (by omega)
           have ha := a.toNat_lt
           have : a.toNat * 256 ^ r.length ≤ 255 * 256 ^ 6 := Nat.mul_le_mul (by omega) h9
           omega
          ·have hr7 : r.length = 7 := by omega
           rw [hr7] at hrl ⊢
           omega
        have hin : (0 : Int) ≤ 0 ∧ (0 : Int) < (l.length : Int) ∨ ¬ (0 : Int) < (l.length : Int) := by omega
        by_cases h4 : c0.toNat = 8 ∧ 127 < (l.getD 0 0).toNat
        ·rw [if_pos h4] at hr
         rw [hr, if_neg (by decide)] at hK
         have d7 : (9223372036854775807 : Int) < (val l : Int) := by have := hval.1 h4; omega
         have e5z : ((5 : Int) != 0) = true := rfl
         unfold wcells at hK
         rcases hz6 with d6 | ⟨d6, c1, hc1, z6⟩
         ·exfalso; omega
         ·have g1 := getD_encB hc1
          have in6 : (0 : Int) ≤ 0 ∧ (0 : Int) < (l.length : Int) := by omega
          simp -implicitDefEqProofs only [go_sem, ↓reduceIte, Nat.reduceEqDiff, Nat.reduceLT, Nat.reduceLeDiff, Nat.reduceAdd, Nat.reduceMul, Nat.reduceSub, reduceCtorEq, Nat.reduceMod, Nat.reduceBEq, Int.reduceBEq, Int.reduceBNe, Int.reduceToNat, e0, e3, e5, e6, wcells, zn, d6, in6, g1, z6, d7]
          refine fail_calls (s := { s with p := s.p + (c0.toNat + 1) }) (set_at _ _ _) _ _ ?_
          dsimp only
          rw [if_pos he, set_set]
          simp -implicitDefEqProofs only [go_sem, ↓reduceIte, Nat.reduceEqDiff, Nat.reduceLT, Nat.reduceLeDiff, Nat.reduceAdd, Nat.reduceMul, Nat.reduceSub, reduceCtorEq, Nat.reduceMod, Nat.reduceBEq, Int.reduceBEq, Int.reduceBNe, Int.reduceToNat, e0, e3, wcells, e5z, psplice]
          exact ⟨_, fun _ _ h => h, hK⟩
        ·rw [if_neg h4] at hr
         rw [hr, if_pos rfl] at hK
         have d7 : ¬ (9223372036854775807 : Int) < (val l : Int) := by have := mt hval.2 h4; omega
         have wv : IntKind.i64.wrap (val l : Int) = (val l : Int) := wrap64 (by omega) (by omega)
         unfold wcells at hK
         rcases hz6 with d6 | ⟨d6, c1, hc1, z6⟩
         ·simp -implicitDefEqProofs only [go_sem, ↓reduceIte, Nat.reduceEqDiff, Nat.reduceLT, Nat.reduceLeDiff, Nat.reduceAdd, Nat.reduceMul, Nat.reduceSub, reduceCtorEq, Nat.reduceMod, Nat.reduceBEq, Int.reduceBEq, Int.reduceBNe, Int.reduceToNat, e0, e3, e5, e6, wcells, zn, d6, d7, wv]
          exact ⟨_, fun _ _ h => h, hK⟩
         ·have g1 := getD_encB hc1
          have in6 : (0 : Int) ≤ 0 ∧ (0 : Int) < (l.length : Int) := by omega
          simp -implicitDefEqProofs only [go_sem, ↓reduceIte, Nat.reduceEqDiff, Nat.reduceLT, Nat.reduceLeDiff, Nat.reduceAdd, Nat.reduceMul, Nat.reduceSub, reduceCtorEq, Nat.reduceMod, Nat.reduceBEq, Int.reduceBEq, Int.reduceBNe, Int.reduceToNat, e0, e3, e5, e6, wcells, zn, d6, in6, g1, z6, d7, wv]
          exact ⟨_, fun _ _ h => h, hK⟩
 ·rw [if_neg he, set_eta hs] at hK
  rw [if_neg he]
  rw [set_eta hs]
  simp -implicitDefEqProofs only [go_sem, ↓reduceIte, Nat.reduceEqDiff, Nat.reduceLT, Nat.reduceLeDiff, Nat.reduceAdd, Nat.reduceMul, Nat.reduceSub, reduceCtorEq, Nat.reduceMod, Nat.reduceBEq, Int.reduceBEq, Int.reduceBNe, Int.reduceToNat, encB_nil, e00]
  exact ⟨_, fun _ _ h => h, hK⟩
end Go.Proofs.YtdioedabjaaboaaGreat.V
