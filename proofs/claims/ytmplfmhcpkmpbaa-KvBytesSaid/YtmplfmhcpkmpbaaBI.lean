/- Bytes: what was put is read again (plain). -/
import Derived.Test.YtmplfmhcpkmpbaaBH
set_option linter.unusedVariables false
set_option linter.unusedSimpArgs false
namespace Go.Proofs.Ytmplfmhcpkmpbaa.V
open Go Go.VL

theorem val_digs : ∀ (k n : Nat), n < 256 ^ k → val (digs n) = n
  | 0, n, h => by
    have : n = 0 := by simpa using h
    subst this
    rw [digs_zero]
    rfl
  | k + 1, n, h => by
    by_cases h0 : n = 0
    · subst h0; rw [digs_zero]; rfl
    · have h1 : n / 256 < 256 ^ k := by rw [Nat.pow_succ] at h; omega
      rw [digs_pos h0, val_snoc, val_digs k _ h1]
      have : (UInt8.ofNat (n % 256)).toNat = n % 256 := by simp
      omega
theorem digs_first {n : Nat} (h : n < 9223372036854775808) (h0 : 0 < (digs n).length) : 0 < ((digs n).getD 0 0).toNat ∧ ((digs n).length = 8 → ((digs n).getD 0 0).toNat ≤ 127) := by
  have hg := digs_get ((digs n).length - 1) n (by omega)
  rw [show (digs n).length - 1 - ((digs n).length - 1) = 0 by omega] at hg
  have h1 := (digs_more ((digs n).length - 1) n).1 (by omega)
  have h2 : ¬ 0 < n / 256 ^ (digs n).length := fun hh => absurd ((digs_more _ n).2 hh) (by omega)
  have h3 : n / 256 ^ ((digs n).length - 1) < 256 := by
    have e : n / 256 ^ (digs n).length = n / 256 ^ ((digs n).length - 1) / 256 := by
      rw [Nat.div_div_eq_div_mul, ← Nat.pow_succ, show ((digs n).length - 1).succ = (digs n).length by omega]
    omega
  rw [getD_of hg]
  have h4 : (UInt8.ofNat (n / 256 ^ ((digs n).length - 1))).toNat = n / 256 ^ ((digs n).length - 1) := by
    rw [UInt8.toNat_ofNat']
    omega
  rw [h4]
  refine ⟨h1, fun h8 => ?_⟩
  rw [h8]
  omega
theorem rdNum_numB {n : Nat} (h : n < 9223372036854775808) (rest : List UInt8) : rdNum (numB n ++ rest) = (n, (numB n).length, 0) := by
  have hd := digs8 h
  have hf := @digs_first n h
  have e0 : (numB n ++ rest)[0]? = some (UInt8.ofNat (digs n).length) := rfl
  have t0 : (UInt8.ofNat (digs n).length).toNat = (digs n).length := by
    rw [UInt8.toNat_ofNat']
    omega
  have ed : (numB n ++ rest).drop 1 = digs n ++ rest := rfl
  have hl : (numB n ++ rest).length = (digs n).length + 1 + rest.length := by unfold numB; simp; omega
  rw [rdNum_of (by omega) e0, t0, if_neg (by omega), if_neg (by omega), ed, List.take_left']
  · have e1 : 0 < (digs n).length → (numB n ++ rest).getD 1 0 = (digs n).getD 0 0 := fun hp => by
      show (digs n ++ rest).getD 0 0 = _
      rw [List.getD_eq_getElem?_getD, List.getElem?_append_left hp, ← List.getD_eq_getElem?_getD]
    rw [if_neg (fun hh => by have := (hf hh.1).1; rw [e1 hh.1] at hh; omega), if_neg (fun hh => by have := (hf (by omega)).2 hh.1; rw [e1 (by omega)] at hh; omega), val_digs 8 n (by omega)]
    rfl
  · rfl
theorem textB_len (t : ByteArray) : (textB t).length = (numB t.size).length + t.size := by unfold textB; rw [List.length_append, size_data]
theorem strOf_data (t : ByteArray) : strOf t.data.toList = t := by
  unfold strOf
  cases t
  simp

theorem drop_app {b pre rest : List UInt8} {p : Nat} (h : b.drop p = pre ++ rest) : b.drop (p + pre.length) = rest ∧ (pre ++ rest).length = b.length - p := by
  refine ⟨?_, by rw [← h, List.length_drop]⟩
  rw [← List.drop_drop, h, List.drop_left']
  rfl
theorem rText_put {b rest : List UInt8} {p m : Nat} {t : ByteArray} (h : b.drop p = textB t ++ rest) (ht : t.size ≤ m) (hm : m ≤ 100000) : rText m ⟨b, p, 0⟩ = (t, ⟨b, p + (textB t).length, 0⟩) := by
  have hn : rdNum (b.drop p) = (t.size, (numB t.size).length, 0) := by
    rw [h]
    unfold textB
    rw [List.append_assoc]
    exact rdNum_numB (by omega) _
  have hl := (drop_app h).2
  rw [List.length_append, textB_len] at hl
  have h2 : b.drop (p + (numB t.size).length) = t.data.toList ++ rest := by
    have : b.drop p = numB t.size ++ (t.data.toList ++ rest) := by rw [h]; unfold textB; rw [List.append_assoc]
    exact (drop_app this).1
  unfold rText
  dsimp only
  rw [if_pos rfl, hn]
  dsimp only
  have he : textE t.size (b.length - p - (numB t.size).length) m 0 = 0 := by
    unfold textE
    rw [if_pos rfl, if_neg (by omega), if_neg (by omega)]
  rw [he, if_pos rfl, h2, List.take_left' (size_data t), strOf_data, textB_len, Nat.add_assoc]
theorem rFlag_put {b rest : List UInt8} {p : Nat} {f : Bool} (h : b.drop p = flagB f ++ rest) : rFlag ⟨b, p, 0⟩ = (f, ⟨b, p + (flagB f).length, 0⟩) := by
  have hn : rdNum (b.drop p) = ((if f then 1 else 0), (flagB f).length, 0) := by
    rw [h]
    exact rdNum_numB (by split <;> omega) _
  unfold rFlag
  dsimp only
  rw [if_pos rfl, hn]
  cases f <;> rfl
theorem opB_len' (o : KO) : (opB o).length = (textB o.k).length + (flagB o.has).length + (textB o.v).length := by unfold opB; simp only [List.length_append]
theorem getOne_put {b rest : List UInt8} {p : Nat} {o : KO} (h : b.drop p = opB o ++ rest) (hk : o.k.size ≤ 96) (hv : o.v.size ≤ 192) : getOne ⟨b, p, 0⟩ = (o, ⟨b, p + (opB o).length, 0⟩) := by
  have h1 : b.drop p = textB o.k ++ (flagB o.has ++ (textB o.v ++ rest)) := by rw [h]; unfold opB; simp only [List.append_assoc]
  have h2 := (drop_app h1).1
  have h3 := (drop_app h2).1
  unfold getOne
  rw [rText_put h1 hk (by decide)]
  dsimp only
  rw [rFlag_put h2]
  dsimp only
  rw [rText_put h3 hv (by decide), opB_len']
  dsimp only
  rw [Nat.add_assoc, Nat.add_assoc, Nat.add_assoc]
theorem getF_put : ∀ (l : List KO) {b rest : List UInt8} {p : Nat}, b.drop p = opsB l ++ rest → (∀ o ∈ l, o.k.size ≤ 96 ∧ o.v.size ≤ 192) → getF l.length ⟨b, p, 0⟩ = (l, ⟨b, p + (opsB l).length, 0⟩)
  | [], b, rest, p, h, _ => rfl
  | o :: l, b, rest, p, h, hf => by
    have h1 : b.drop p = opB o ++ (opsB l ++ rest) := by rw [h]; show (opB o ++ opsB l) ++ rest = _; rw [List.append_assoc]
    have h2 := (drop_app h1).1
    rw [List.length_cons, getF, if_pos rfl, getOne_put h1 (hf o List.mem_cons_self).1 (hf o List.mem_cons_self).2]
    dsimp only
    rw [getF_put l h2 (fun x hx => hf x (List.mem_cons_of_mem _ hx))]
    show (o :: l, (⟨b, p + (opB o).length + (opsB l).length, 0⟩ : Rd)) = (o :: l, ⟨b, p + (opB o ++ opsB l).length, 0⟩)
    rw [List.length_append, Nat.add_assoc]
theorem getOps_put {l : List KO} {rest : List UInt8} (hl : l.length ≤ 20) (hf : ∀ o ∈ l, o.k.size ≤ 96 ∧ o.v.size ≤ 192) : getOps 20 ⟨putB l ++ rest, 0, 0⟩ = (l, ⟨putB l ++ rest, (putB l).length, 0⟩) := by
  have hn : rdNum ((putB l ++ rest).drop 0) = (l.length, (numB l.length).length, 0) := by
    rw [List.drop_zero]
    unfold putB
    rw [List.append_assoc]
    exact rdNum_numB (by omega) _
  have hw : rWithin 0 20 ⟨putB l ++ rest, 0, 0⟩ = (l.length, ⟨putB l ++ rest, (numB l.length).length, 0⟩) := by
    unfold rWithin
    dsimp only
    rw [if_pos rfl, hn]
    dsimp only
    have : withinE l.length 0 20 0 = 0 := by unfold withinE; rw [if_neg (by omega)]
    rw [this, if_pos rfl, Nat.zero_add]
  unfold getOps
  rw [hw]
  dsimp only
  have hd : (putB l ++ rest).drop (numB l.length).length = opsB l ++ rest := by
    have h0 : (putB l ++ rest).drop 0 = numB l.length ++ (opsB l ++ rest) := by rw [List.drop_zero]; unfold putB; rw [List.append_assoc]
    have := (drop_app h0).1
    rwa [Nat.zero_add] at this
  rw [getF_put l hd hf]
  have : (putB l).length = (numB l.length).length + (opsB l).length := by unfold putB; rw [List.length_append]
  rw [this]

/-! ### how many bytes runes have -/
theorem decode_le (s : ByteArray) (i : Nat) : (Utf8.decode s i).2 ≤ 4 := by
  unfold Utf8.decode
  dsimp only
  repeat' split
  all_goals simp
theorem runes_size (s : ByteArray) : ∀ (n pos : Nat), s.size - pos ≤ n → s.size ≤ pos + 4 * (runes s pos).length := by
  intro n
  induction n with
  | zero => intro pos h; omega
  | succ n ih =>
    intro pos h
    by_cases hp : pos < s.size
    · have hd := decode_pos s pos
      have hd4 := decode_le s pos
      have := ih (pos + (Utf8.decode s pos).2) (by omega)
      rw [runes_lt hp, List.length_cons]
      omega
    · omega
theorem allQ_hi {lo hi : Nat} {l : List Nat} (h : allQ lo hi 0 l = true) : l.length ≤ hi := by
  unfold allQ at h
  simp only [Bool.and_eq_true, decide_eq_true_eq, Nat.zero_add] at h
  exact h.2.1
theorem key_size {s : ByteArray} (h : keyQ s = true) : s.size ≤ 96 := by
  have h1 := runes_size s s.size 0 (by omega)
  have h2 := allQ_hi h
  omega
theorem val_size {s : ByteArray} (h : valQ s = true) : s.size ≤ 192 := by
  have h1 := runes_size s s.size 0 (by omega)
  have h2 := allQ_hi h
  omega
theorem right_size : ∀ (l pre : List KO), rightF pre l = 0 → ∀ o ∈ l, o.k.size ≤ 96 ∧ o.v.size ≤ 192
  | [], pre, _ => by simp
  | o :: l, pre, h => by
    unfold rightF at h
    split at h
    · rename_i hk
      split at h
      · cases h
      · rename_i hb
        split at h
        · cases h
        · intro x hx
          rcases List.mem_cons.1 hx with rfl | hx
          · refine ⟨key_size hk, ?_⟩
            unfold badV at hb
            split at hb
            · exact val_size (by simpa using hb)
            · have : same x.v ⟨#[]⟩ = true := by simpa using hb
              rw [same_iff.1 this]
              decide
          · exact right_size l _ h x hx
    · cases h
end Go.Proofs.Ytmplfmhcpkmpbaa.V
