/- Views: sums in halves are sums. -/
import Derived.Test.YtdioedabjaaboaaGreatYG
set_option linter.unusedVariables false
set_option linter.unusedSimpArgs false
namespace Go.Proofs.YtdioedabjaaboaaGreat.V
open Go Go.VL

theorem hi32_eq (n : Int) : hi32 n = n / 4294967296 := Int.fdiv_eq_ediv_of_nonneg n (by decide)
theorem ofInt_nat (n : Int) : (BitVec.ofInt 64 n).toNat = (n % 18446744073709551616).toNat := by
 rw [BitVec.toNat_ofInt]
 rfl
theorem lo32_eq (n : Int) : lo32 n = n % 4294967296 := by
 unfold lo32
 rw [BitVec.toNat_and, ofInt_nat, ofInt_nat]
 have h1 : ((4294967295 : Int) % 18446744073709551616).toNat = 2 ^ 32 - 1 := by decide
 rw [h1, Nat.and_two_pow_sub_one_eq_mod]
 have h2 : (((n % 18446744073709551616).toNat % 2 ^ 32 : Nat) : Int) = n % 4294967296 := by
  have : (2 : Nat) ^ 32 = 4294967296 := by decide
  rw [this]
  omega
 rw [h2]
 exact wrap64 (by omega) (by omega)
theorem numF_in (s : ByteArray) : in64 (numF s).1 := by
 unfold numF numE in64
 split
 ·decide
 ·split
  ·decide
  ·split
   ·dsimp only; omega
   ·split
    ·decide
    ·dsimp only; omega
theorem numberF_in (w : Wv) (v : ByteArray) : in64 (numberF w v) := by
 unfold numberF
 split
 ·exact numF_in _
 ·decide
def sN (w : Wv) (Q : List Pr) : Int := (Q.map fun p => numberF w p.2).sum
theorem halves (w : Wv) : ∀ Q : List Pr, sN w Q = 4294967296 * sH w Q + sL w Q ∧ 0 ≤ sL w Q ∧ sL w Q ≤ 4294967296 * Q.length ∧ -2147483648 * Q.length ≤ sH w Q ∧ sH w Q ≤ 2147483648 * Q.length
 | [] => by simp [sN, sH, sL]
 | p :: Q => by
  obtain ⟨h1, h2, h3, h4, h5⟩ := halves w Q
  have hin := numberF_in w p.2
  unfold in64 at hin
  unfold sN sH sL at *
  simp only [List.map_cons, List.sum_cons, List.length_cons]
  have e1 := hi32_eq (numberF w p.2)
  have e2 := lo32_eq (numberF w p.2)
  generalize hi32 (numberF w p.2) = a at *
  generalize lo32 (numberF w p.2) = b at *
  generalize numberF w p.2 = n at *
  generalize (List.map (fun p => hi32 (numberF w p.snd)) Q).sum = x at *
  generalize (List.map (fun p => lo32 (numberF w p.snd)) Q).sum = y at *
  generalize (List.map (fun p => numberF w p.snd) Q).sum = z at *
  omega
theorem or32 {t l : Int} (ht : -2147483648 ≤ t ∧ t < 2147483648) (hl : 0 ≤ l ∧ l < 4294967296) : IntKind.i64.wrap (BitVec.ofInt 64 (t * 4294967296) ||| BitVec.ofInt 64 l).toNat = t * 4294967296 + l := by
 rw [BitVec.toNat_or, ofInt_nat, ofInt_nat]
 have h1 : (l % 18446744073709551616).toNat = l.toNat := by omega
 have h2 : (t * 4294967296 % 18446744073709551616).toNat = 2 ^ 32 * (t % 4294967296).toNat := by
  have : (2 : Nat) ^ 32 = 4294967296 := by decide
  rw [this]; omega
 rw [h1, h2, ← Nat.two_pow_add_eq_or_of_lt (by have : (2 : Nat) ^ 32 = 4294967296 := by decide
                                               rw [this]; omega)]
 have : (2 : Nat) ^ 32 = 4294967296 := by decide
 rw [this, wrap_eq]
 split <;> omega
theorem sum_fit {w : Wv} {Q : List Pr} (hQ : Q.length ≤ 1000000) : fitF (sumOf w Q) = decide (in64 (sN w Q)) ∧ (fitF (sumOf w Q) = true → valF (sumOf w Q) = sN w Q) := by
 obtain ⟨h1, h2, h3, h4, h5⟩ := halves w Q
 have hl : (Q.length : Int) ≤ 1000000 := by omega
 have e1 : IntKind.i64.wrap (sH w Q) = sH w Q := wrap64 (by omega) (by omega)
 have e2 : IntKind.i64.wrap (sL w Q) = sL w Q := wrap64 (by omega) (by omega)
 have hh := hi32_eq (sL w Q)
 have hlo := lo32_eq (sL w Q)
 have e3 : topF (sumOf w Q) = sH w Q + sL w Q / 4294967296 := by
  unfold topF sumOf
  dsimp only
  rw [e1, e2, hh]
  exact wrap64 (by omega) (by omega)
 have hfit : fitF (sumOf w Q) = decide (in64 (sN w Q)) := by
  unfold fitF
  rw [e3]
  by_cases hin : in64 (sN w Q)
  ·rw [decide_eq_true hin]
   unfold in64 at hin
   rw [decide_eq_false (by omega), decide_eq_false (by omega)]
   rfl
  ·rw [decide_eq_false hin]
   unfold in64 at hin
   by_cases hlt : sH w Q + sL w Q / 4294967296 < -2147483648
   ·rw [decide_eq_true hlt]; rfl
   ·rw [decide_eq_true (show 2147483648 ≤ sH w Q + sL w Q / 4294967296 by omega), Bool.or_true]; rfl
 refine ⟨hfit, fun hf => ?_⟩
 rw [hfit, decide_eq_true_eq] at hf
 unfold in64 at hf
 unfold valF
 rw [e3]
 have e4 : lo32 (sumOf w Q).2 = sL w Q % 4294967296 := by
  unfold sumOf
  dsimp only
  rw [e2, hlo]
 have e5 : IntKind.i64.wrap ((sH w Q + sL w Q / 4294967296) * 4294967296) = (sH w Q + sL w Q / 4294967296) * 4294967296 := wrap64 (by omega) (by omega)
 rw [e4, e5, or32 (by omega) (by omega)]
 omega
end Go.Proofs.YtdioedabjaaboaaGreat.V
