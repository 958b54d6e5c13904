/- Bytes of views: numbers and texts as bytes, long ones too. -/
import Derived.Test.YtdioedabjaaboaaGreatKLa
import Derived.Test.YtdioedabjaaboaaGreatYB
set_option linter.unusedVariables false
set_option linter.unusedSimpArgs false
namespace Go.Proofs.YtdioedabjaaboaaGreat.V
open Go Go.VL

def encB (l : List UInt8) : List (List PV) := l.map fun c => [.int .u8 (c.toNat : Int)]
@[go_sem] theorem len_encB (l : List UInt8) : (encB l).length = l.length := by simp [encB]
theorem getD_encB {l : List UInt8} {k : Nat} {c : UInt8} (h : l[k]? = some c) : (encB l).getD k [] = [.int .u8 (c.toNat : Int)] := by
 simp [encB, List.getD_eq_getElem?_getD, h]
theorem encB_nil : encB [] = [] := rfl
theorem encB_app (a b : List UInt8) : encB a ++ encB b = encB (a ++ b) := by simp [encB]
def digs (n : Nat) : List UInt8 := if h : n = 0 then [] else digs (n / 256) ++ [UInt8.ofNat (n % 256)]
termination_by n
decreasing_by omega
theorem digs_zero : digs 0 = [] := by rw [digs]; simp
theorem digs_pos {n : Nat} (h : n ≠ 0) : digs n = digs (n / 256) ++ [UInt8.ofNat (n % 256)] := by rw [digs]; simp [h]
def numB (n : Nat) : List UInt8 := UInt8.ofNat (digs n).length :: digs n
theorem byte_of (n : Nat) : IntKind.u8.wrap (n : Int) = ((UInt8.ofNat n).toNat : Int) := by
 have : IntKind.u8.wrap (n : Int) = (n : Int) % 256 := by simp [IntKind.wrap, IntKind.bits, IntKind.signed]
 rw [this]
 simp
theorem rem256 (n : Nat) : (n : Int).tmod 256 = ((n % 256 : Nat) : Int) := by
 rw [Int.tmod_eq_emod_of_nonneg (by omega)]
 omega
theorem quo256 (n : Nat) (h : n < 9223372036854775808) : IntKind.i64.wrap ((n : Int).tdiv 256) = ((n / 256 : Nat) : Int) := by
 rw [Int.tdiv_eq_ediv_of_nonneg (by omega), wrap64 (by omega) (by omega)]
 omega
theorem digs_len : ∀ (k n : Nat), n < 256 ^ k → (digs n).length ≤ k
 | 0, n, h => by
  have : n = 0 := by simpa using h
  subst this
  rw [digs_zero]
  simp
 | k + 1, n, h => by
  by_cases h0 : n = 0
  ·subst h0; rw [digs_zero]; simp
  ·rw [digs_pos h0, List.length_append]
   have : n / 256 < 256 ^ k := by rw [Nat.pow_succ] at h; omega
   have := digs_len k _ this
   simp only [List.length_cons, List.length_nil]
   omega
theorem digs8 {n : Nat} (h : n < 9223372036854775808) : (digs n).length ≤ 8 := digs_len 8 n (by omega)
theorem small1 {k : Nat} (h : k ≤ 190000000000000) : k * 1 ≤ 190000000000000 ∧ k ≤ 190000000000000 := by omega

set_option maxHeartbeats 1000000 in
theorem rnumber_spec (b : List UInt8) (z : Int) (n : Nat) (hz : (n : Int) = if 0 < z then z else 0) (hn : n < 9223372036854775808) (hb : b.length ≤ 185000000000000) (S : Store) : PRet Tryz.prog 73 [.sl .no 1 (encB b), .int .i64 z] S (.sl .tail 1 (encB (b ++ numB n))) := by
 intro K hK
 refine pcalls_of (C := C) (fun d => d == 4) (fun _ => false) Tryz.func73 rfl rfl (by simp [Tryz.f73]) ?_
 have hmax : (if (0 : Int) < z then z else 0) = (n : Int) := hz.symm
 have hmax2 : (if z < (0 : Int) then (0 : Int) else z) = (n : Int) := by rw [hz]; split <;> split <;> omega
 simp -implicitDefEqProofs only [go_sem, ↓reduceIte, Nat.reduceEqDiff, Nat.reduceLT, Nat.reduceLeDiff, Nat.reduceAdd, Nat.reduceMul, Nat.reduceSub, reduceCtorEq, Nat.reduceMod, Nat.reduceBEq, Int.reduceBEq, Int.reduceBNe, Int.reduceToNat, Tryz.f73, hmax, hmax2]
 refine vloop (fun e S' => S' = S ∧ ∃ (m : Nat) (ds : List UInt8), m ≤ n ∧ digs n = digs m ++ ds ∧ e 0 = .sl .no 1 (encB b) ∧ e 1 = .int .i64 m ∧ (e 5).bare = .sl .no 1 (encB ds)) (fun e _ => (iv (e 1))) ?_ ?_
 ·exact ⟨rfl, n, [], Nat.le_refl _, by simp, rfl, rfl, rfl⟩
 ·rintro J M Q' hJ hM hQ e S' ⟨rfl, m, ds, hm, hd, e0, e1, e5⟩
  obtain ⟨fl, e5⟩ : ∃ fl, e 5 = .sl fl 1 (encB ds) := by
   cases h : e 5 with
   | sl fl sz rows => rw [h] at e5; simp only [PV.bare] at e5; injection e5 with _ e1 e2; exact ⟨fl, by rw [e1, e2]⟩
   | _ => rw [h] at e5; simp [PV.bare] at e5
  have hdl := digs8 hn
  rw [hd, List.length_append] at hdl
  by_cases h0 : m = 0
  ·have d0 : ¬ (0 : Int) < (m : Int) := by omega
   subst h0
   rw [digs_zero, List.nil_append] at hd
   rw [digs_zero] at hdl
   simp only [List.length_nil] at hdl
   simp -implicitDefEqProofs only [go_sem, ↓reduceIte, Nat.reduceEqDiff, Nat.reduceLT, Nat.reduceLeDiff, Nat.reduceAdd, Nat.reduceMul, Nat.reduceSub, reduceCtorEq, Nat.reduceMod, Nat.reduceBEq, Int.reduceBEq, Int.reduceBNe, Int.reduceToNat, d0, e1]
   refine hQ _ _ _ ?_
   have a1 := small1 (k := 0 + b.length) (by omega)
   have a2 := small1 (k := b.length + 1) (by omega)
   have a3 := small1 (k := b.length + 1 + ds.length) (by omega)
   simp -implicitDefEqProofs only [go_sem, ↓reduceIte, Nat.reduceEqDiff, Nat.reduceLT, Nat.reduceLeDiff, Nat.reduceAdd, Nat.reduceMul, Nat.reduceSub, reduceCtorEq, Nat.reduceMod, Nat.reduceBEq, Int.reduceBEq, Int.reduceBNe, Int.reduceToNat, e0, e5]
   have hr : encB b ++ [[PV.int .u8 (IntKind.u8.wrap (ds.length : Int))]] ++ encB ds = encB (b ++ numB n) := by
    unfold numB
    rw [hd, byte_of]
    simp [encB]
   have hl1 : (encB b ++ [[PV.int .u8 (IntKind.u8.wrap (ds.length : Int))]]).length = b.length + 1 := by rw [List.length_append, len_encB]; rfl
   rw [hr, hl1]
   exact ⟨by omega, by omega, by omega, S', fun _ _ h => h, hK⟩
  ·have d0 : (0 : Int) < (m : Int) := by omega
   have r1 := rem256 m
   have r2 := byte_of (m % 256)
   have r3 := quo256 m (by omega)
   have h256 : (256 : Int) ≠ 0 := by decide
   have a1 := small1 (k := 1 + ds.length) (by omega)
   have hdd := digs_pos h0
   simp -implicitDefEqProofs only [go_sem, ↓reduceIte, Nat.reduceEqDiff, Nat.reduceLT, Nat.reduceLeDiff, Nat.reduceAdd, Nat.reduceMul, Nat.reduceSub, reduceCtorEq, Nat.reduceMod, Nat.reduceBEq, Int.reduceBEq, Int.reduceBNe, Int.reduceToNat, d0, e1, e5, h256, r1, r2, r3, a1]
   refine vnext hJ hM S' (fun _ _ h => h) ⟨rfl, m / 256, UInt8.ofNat (m % 256) :: ds, by omega, by rw [hd, hdd]; simp, ?_, ?_, ?_⟩ ?_
   ·simp -implicitDefEqProofs only [go_sem, ↓reduceIte, Nat.reduceEqDiff, e0]
   ·simp -implicitDefEqProofs only [go_sem, ↓reduceIte, Nat.reduceEqDiff]
   ·simp -implicitDefEqProofs only [go_sem, ↓reduceIte, Nat.reduceEqDiff]; rfl
   ·simp -implicitDefEqProofs only [go_sem, ↓reduceIte, Nat.reduceEqDiff]
    omega
theorem bytes_of_str (t : ByteArray) : (t.data.toList.map fun c => [PV.int .u8 (c.toNat : Int)]) = encB t.data.toList := rfl
def textB (t : ByteArray) : List UInt8 := numB t.size ++ t.data.toList
theorem numB_len {n : Nat} (h : n < 9223372036854775808) : (numB n).length ≤ 9 := by
 have := digs8 h
 unfold numB
 simp only [List.length_cons]
 omega
theorem size_data (t : ByteArray) : t.data.toList.length = t.size := by rw [Array.length_toList]; rfl
theorem rtext_spec (b : List UInt8) (t : ByteArray) (ht : b.length + t.size ≤ 180000000000000) (S : Store) : PRet Tryz.prog 72 [.sl .no 1 (encB b), .str t] S (.sl .tail 1 (encB (b ++ textB t))) := by
 intro K hK
 refine pcalls_of (C := C) (fun d => d == 4) (fun _ => false) Tryz.func72 rfl rfl (by simp [Tryz.f72]) ?_
 simp -implicitDefEqProofs only [go_sem, ↓reduceIte, Nat.reduceEqDiff, Nat.reduceLT, Nat.reduceLeDiff, Nat.reduceAdd, Nat.reduceMul, Nat.reduceSub, reduceCtorEq, Nat.reduceMod, Nat.reduceBEq, Int.reduceBEq, Int.reduceBNe, Int.reduceToNat, Tryz.f72]
 refine rnumber_spec b t.size t.size (by split <;> omega) (by omega) (by omega) _ _ ?_
 have hn := numB_len (n := t.size) (by omega)
 have a1 := small1 (k := (b ++ numB t.size).length + t.size) (by rw [List.length_append]; omega)
 simp -implicitDefEqProofs only [go_sem, ↓reduceIte, Nat.reduceEqDiff, Nat.reduceLT, Nat.reduceLeDiff, Nat.reduceAdd, Nat.reduceMul, Nat.reduceSub, reduceCtorEq, Nat.reduceMod, Nat.reduceBEq, Int.reduceBEq, Int.reduceBNe, Int.reduceToNat, a1, bytes_of_str, encB_app]
 unfold textB at hK
 rw [← List.append_assoc] at hK
 exact ⟨S, fun _ _ h => h, hK⟩
end Go.Proofs.YtdioedabjaaboaaGreat.V
