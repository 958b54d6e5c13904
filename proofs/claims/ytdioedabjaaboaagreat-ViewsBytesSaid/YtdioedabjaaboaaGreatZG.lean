/- Bytes of views: what was put is read again. -/
import Derived.Test.YtdioedabjaaboaaGreatZF
set_option linter.unusedVariables false
set_option linter.unusedSimpArgs false
namespace Go.Proofs.YtdioedabjaaboaaGreat.V
open Go Go.VL

theorem rdNum_pos {l : List UInt8} (h : (rdNum l).2.2 = 0) : 1 ≤ (rdNum l).2.1 := by
 unfold rdNum at h ⊢
 by_cases h0 : l.length = 0
 ·rw [if_pos h0] at h; simp at h
 rw [if_neg h0] at h ⊢
 by_cases h1 : 8 < (l.getD 0 0).toNat
 ·rw [if_pos h1] at h; simp at h
 rw [if_neg h1] at h ⊢
 by_cases h2 : l.length < (l.getD 0 0).toNat + 1
 ·rw [if_pos h2] at h; simp at h
 rw [if_neg h2] at h ⊢
 by_cases h3 : 0 < (l.getD 0 0).toNat ∧ (l.getD 1 0).toNat = 0
 ·rw [if_pos h3] at h; simp at h
 rw [if_neg h3] at h ⊢
 by_cases h4 : (l.getD 0 0).toNat = 8 ∧ 127 < (l.getD 1 0).toNat
 ·rw [if_pos h4] at h; simp at h
 rw [if_neg h4]
 exact Nat.le_add_left _ _
/-- What a reading leaves: it is in order; where there is no error there was none, and it went on. -/
def Went (s t : Rd) : Prop := t.Ok ∧ (t.e = 0 → s.e = 0 ∧ s.p + 1 ≤ t.p)
theorem rText_went {s : Rd} (ok : s.Ok) (m : Nat) : Went s (rText m s).2 := by
 have h1 := ok.1
 have h2 := ok.2
 unfold rText
 by_cases he : s.e = 0
 ·rw [if_pos he]
  split
  ·rename_i ht
   have hz : (rdNum (s.b.drop s.p)).2.2 = 0 := by
    unfold textE at ht
    by_cases hz : (rdNum (s.b.drop s.p)).2.2 = 0
    ·exact hz
    ·rw [if_neg hz] at ht; exact absurd ht hz
   have hp := rdNum_pos hz
   have hb := rdNum_lt (s.b.drop s.p)
   rw [List.length_drop] at hb
   unfold textE at ht
   rw [if_pos hz] at ht
   split at ht
   ·cases ht
   ·split at ht
    ·cases ht
    ·refine ⟨⟨by dsimp only; omega, h2⟩, fun _ => ⟨he, by dsimp only; omega⟩⟩
  ·rename_i ht
   exact ⟨⟨h1, h2⟩, fun h => absurd h ht⟩
 ·rw [if_neg he]
  exact ⟨ok, fun h => absurd h he⟩
theorem Err_spec {S : Store} {id : Nat} {s : Rd} (hs : S id = some (wcells s)) : PRet Tryz.prog 40 [.ref id 0] S (.int .i64 s.e) := by
 intro K hK
 refine pcalls_of (C := C) (fun _ => false) (fun _ => false) Tryz.func40 rfl rfl (by simp [Tryz.f40]) ?_
 have hs' := hs
 unfold wcells at hs'
 simp -implicitDefEqProofs only [go_sem, ↓reduceIte, Nat.reduceEqDiff, Nat.reduceLT, Nat.reduceLeDiff, Nat.reduceAdd, Nat.reduceMul, Nat.reduceSub, reduceCtorEq, Nat.reduceMod, Nat.reduceBEq, Int.reduceBEq, Int.reduceBNe, Int.reduceToNat, Tryz.f40]
 refine wdead_spec hs _ ?_
 simp -implicitDefEqProofs only [go_sem, ↓reduceIte, Nat.reduceEqDiff, Nat.reduceLT, Nat.reduceLeDiff, Nat.reduceAdd, Nat.reduceMul, Nat.reduceSub, reduceCtorEq, Nat.reduceMod, Nat.reduceBEq, Int.reduceBEq, Int.reduceBNe, Int.reduceToNat, hs']
 exact ⟨_, fun _ _ h => h, hK⟩
theorem val_digs : ∀ (k n : Nat), n < 256 ^ k → val (digs n) = n
 | 0, n, h => by
  have : n = 0 := by simpa using h
  subst this
  rw [digs_zero]
  rfl
 | k + 1, n, h => by
  by_cases h0 : n = 0
  ·subst h0; rw [digs_zero]; rfl
  ·have h1 : n / 256 < 256 ^ k := by rw [Nat.pow_succ] at h; omega
   rw [digs_pos h0, val_snoc, val_digs k _ h1]
   have : (UInt8.ofNat (n % 256)).toNat = n % 256 := by simp
   omega
theorem digs_first {n : Nat} (h : n < 9223372036854775808) (h0 : 0 < (digs n).length) : 0 < ((digs n).getD 0 0).toNat ∧ ((digs n).length = 8 → ((digs n).getD 0 0).toNat ≤ 127) := by
 have hg := digs_get ((digs n).length - 1) n (by omega)
 rw [show (digs n).length - 1 - ((digs n).length - 1) = 0 by omega] at hg
 have h1 := (digs_more ((digs n).length - 1) n).1 (by omega)
 have h2 : ¬ 0 < n / 256 ^ (digs n).length := fun hh => absurd ((digs_more _ n).2 hh) (by omega)
 have h3 : n / 256 ^ ((digs n).length - 1) < 256 := by
  have e : n / 256 ^ (digs n).length = n / 256 ^ ((digs n).length - 1) / 256 := by
   rw [Nat.div_div_eq_div_mul, ← Nat.pow_succ, show ((digs n).length - 1).succ = (digs n).length by omega]
  omega
 rw [getD_of hg]
 have h4 : (UInt8.ofNat (n / 256 ^ ((digs n).length - 1))).toNat = n / 256 ^ ((digs n).length - 1) := by
  rw [UInt8.toNat_ofNat']
  omega
 rw [h4]
 refine ⟨h1, fun h8 => ?_⟩
 rw [h8]
 omega
theorem rdNum_numB {n : Nat} (h : n < 9223372036854775808) (rest : List UInt8) : rdNum (numB n ++ rest) = (n, (numB n).length, 0) := by
 have hd := digs8 h
 have hf := @digs_first n h
 have e0 : (numB n ++ rest)[0]? = some (UInt8.ofNat (digs n).length) := rfl
 have t0 : (UInt8.ofNat (digs n).length).toNat = (digs n).length := by
  rw [UInt8.toNat_ofNat']
  omega
 have ed : (numB n ++ rest).drop 1 = digs n ++ rest := rfl
 have hl : (numB n ++ rest).length = (digs n).length + 1 + rest.length := by unfold numB; simp; omega
 rw [rdNum_of (by omega) e0, t0, if_neg (by omega), if_neg (by omega), ed, List.take_left']
 ·have e1 : 0 < (digs n).length → (numB n ++ rest).getD 1 0 = (digs n).getD 0 0 := fun hp => by
   show (digs n ++ rest).getD 0 0 = _
   rw [List.getD_eq_getElem?_getD, List.getElem?_append_left hp, ← List.getD_eq_getElem?_getD]
  rw [if_neg (fun hh => by have := (hf hh.1).1; rw [e1 hh.1] at hh; omega), if_neg (fun hh => by have := (hf (by omega)).2 hh.1; rw [e1 (by omega)] at hh; omega), val_digs 8 n (by omega)]
  rfl
 ·rfl
theorem textB_len (t : ByteArray) : (textB t).length = (numB t.size).length + t.size := by unfold textB; rw [List.length_append, size_data]
theorem strOf_data (t : ByteArray) : strOf t.data.toList = t := by
 unfold strOf
 cases t
 simp

theorem drop_app {b pre rest : List UInt8} {p : Nat} (h : b.drop p = pre ++ rest) : b.drop (p + pre.length) = rest ∧ (pre ++ rest).length = b.length - p := by
 refine ⟨?_, by rw [← h, List.length_drop]⟩
 rw [← List.drop_drop, h, List.drop_left']
 rfl
theorem rText_put {b rest : List UInt8} {p m : Nat} {t : ByteArray} (h : b.drop p = textB t ++ rest) (ht : t.size ≤ m) (hm : m ≤ 100000) : rText m ⟨b, p, 0⟩ = (t, ⟨b, p + (textB t).length, 0⟩) := by
 have hn : rdNum (b.drop p) = (t.size, (numB t.size).length, 0) := by
  rw [h]
  unfold textB
  rw [List.append_assoc]
  exact rdNum_numB (by omega) _
 have hl := (drop_app h).2
 rw [List.length_append, textB_len] at hl
 have h2 : b.drop (p + (numB t.size).length) = t.data.toList ++ rest := by
  have : b.drop p = numB t.size ++ (t.data.toList ++ rest) := by rw [h]; unfold textB; rw [List.append_assoc]
  exact (drop_app this).1
 unfold rText
 dsimp only
 rw [if_pos rfl, hn]
 dsimp only
 have he : textE t.size (b.length - p - (numB t.size).length) m 0 = 0 := by
  unfold textE
  rw [if_pos rfl, if_neg (by omega), if_neg (by omega)]
 rw [he, if_pos rfl, h2, List.take_left' (size_data t), strOf_data, textB_len, Nat.add_assoc]
theorem decode_le4 (s : ByteArray) (i : Nat) : (Utf8.decode s i).2 ≤ 4 := by
 unfold Utf8.decode
 dsimp only
 repeat' split
 all_goals simp
theorem runes_size (s : ByteArray) : ∀ (n pos : Nat), s.size - pos ≤ n → s.size ≤ pos + 4 * (runes s pos).length := by
 intro n
 induction n with
 | zero => intro pos h; omega
 | succ n ih =>
  intro pos h
  by_cases hp : pos < s.size
  ·have hd := decode_pos s pos
   have hd4 := decode_le4 s pos
   have := ih (pos + (Utf8.decode s pos).2) (by omega)
   rw [runes_lt hp, List.length_cons]
   omega
  ·omega
theorem Left_spec {S : Store} {id : Nat} {s : Rd} (hs : S id = some (wcells s)) (ok : s.Ok) : PRet Tryz.prog 41 [.ref id 0] S (.int .i64 (s.b.length - s.p : Nat)) := by
 intro K hK
 refine pcalls_of (C := C) (fun _ => false) (fun _ => false) Tryz.func41 rfl rfl (by simp [Tryz.f41]) ?_
 have hs' := hs
 unfold wcells at hs'
 have ho := ok.1
 have ho2 := ok.2
 have w1 : IntKind.i64.wrap ((s.b.length : Int) - (s.p : Int)) = ((s.b.length - s.p : Nat) : Int) := by rw [wrap64 (by omega) (by omega)]; omega
 simp -implicitDefEqProofs only [go_sem, ↓reduceIte, Nat.reduceEqDiff, Nat.reduceLT, Nat.reduceLeDiff, Nat.reduceAdd, Nat.reduceMul, Nat.reduceSub, reduceCtorEq, Nat.reduceMod, Nat.reduceBEq, Int.reduceBEq, Int.reduceBNe, Int.reduceToNat, Tryz.f41]
 refine wdead_spec hs _ ?_
 simp -implicitDefEqProofs only [go_sem, ↓reduceIte, Nat.reduceEqDiff, Nat.reduceLT, Nat.reduceLeDiff, Nat.reduceAdd, Nat.reduceMul, Nat.reduceSub, reduceCtorEq, Nat.reduceMod, Nat.reduceBEq, Int.reduceBEq, Int.reduceBNe, Int.reduceToNat, hs']
 refine vwp_draw (by decide +kernel) ?_
 simp -implicitDefEqProofs only [go_sem, ↓reduceIte, Nat.reduceEqDiff, Nat.reduceLT, Nat.reduceLeDiff, Nat.reduceAdd, Nat.reduceMul, Nat.reduceSub, reduceCtorEq, Nat.reduceMod, Nat.reduceBEq, Int.reduceBEq, Int.reduceBNe, Int.reduceToNat, hs', w1]
 exact ⟨_, fun _ _ h => h, hK⟩
theorem Read_calls {S : Store} (b : List UInt8) (hb : b.length ≤ 900000) (K : PV → Store → Prop) (hK : ∀ id, S id = none → K (.ref id 0) (S.set id (some (wcells ⟨b, 0, 0⟩)))) : PCalls Tryz.prog 38 [.sl .no 1 (encB b)] S K := by
 refine pcalls_of (C := C) (fun _ => false) (fun d => d == 7) Tryz.func38 rfl rfl (by simp [Tryz.f38]) ?_
 have a1 := small1 (k := 0 + b.length) (by omega)
 simp -implicitDefEqProofs only [go_sem, ↓reduceIte, Nat.reduceEqDiff, Nat.reduceLT, Nat.reduceLeDiff, Nat.reduceAdd, Nat.reduceMul, Nat.reduceSub, reduceCtorEq, Nat.reduceMod, Nat.reduceBEq, Int.reduceBEq, Int.reduceBNe, Int.reduceToNat, Tryz.f38]
 refine ⟨by omega, ?_⟩
 intro id hid
 exact ⟨_, fun _ _ h => h, hK id hid⟩
end Go.Proofs.YtdioedabjaaboaaGreat.V
