/- Views: sums in halves are sums. -/
import Derived.Test.YtdioedabjaaboaaGreatYG
import Derived.Test.YtdioedabjaaboaaGreatYB
set_option linter.unusedVariables false
set_option linter.unusedSimpArgs false
namespace Go.Proofs.YtdioedabjaaboaaGreat.V
open Go Go.VL

theorem hi32_eq (n : Int) : hi32 n = n / 4294967296 := Int.fdiv_eq_ediv_of_nonneg n (by decide)
theorem ofInt_nat (n : Int) : (BitVec.ofInt 64 n).toNat = (n % 18446744073709551616).toNat := by
 rw [BitVec.toNat_ofInt]
 rfl
theorem lo32_eq (n : Int) : lo32 n = n % 4294967296 := by
 unfold lo32
 rw [BitVec.toNat_and, ofInt_nat, ofInt_nat]
 have h1 : ((4294967295 : Int) % 18446744073709551616).toNat = 2 ^ 32 - 1 := by decide
 rw [h1, Nat.and_two_pow_sub_one_eq_mod]
 have h2 : (((n % 18446744073709551616).toNat % 2 ^ 32 : Nat) : Int) = n % 4294967296 := by
  have : (2 : Nat) ^ 32 = 4294967296 := by decide
  rw [this]
  omega
 rw [h2]
 exact wrap64 (by omega) (by omega)
theorem numF_in (s : ByteArray) : in64 (numF s).1 := by
 unfold numF numE in64
 split
 ·decide
 ·split
  ·decide
  ·split
   ·dsimp only; omega
   ·split
    ·decide
    ·dsimp only; omega
theorem numberF_in (w : Wv) (v : ByteArray) : in64 (numberF w v) := by
 unfold numberF
 split
 ·exact numF_in _
 ·decide
def sN (w : Wv) (Q : List Pr) : Int := (Q.map fun p => numberF w p.2).sum
theorem halves (w : Wv) : ∀ Q : List Pr, sN w Q = 4294967296 * sH w Q + sL w Q ∧ 0 ≤ sL w Q ∧ sL w Q ≤ 4294967296 * Q.length ∧ -2147483648 * Q.length ≤ sH w Q ∧ sH w Q ≤ 2147483648 * Q.length
 | [] => by simp [sN, sH, sL]
 | p :: Q => by
  obtain ⟨h1, h2, h3, h4, h5⟩ := halves w Q
  have hin := numberF_in w p.2
  unfold in64 at hin
  unfold sN sH sL at *
  simp only [List.map_cons, List.sum_cons, List.length_cons]
  have e1 := hi32_eq (numberF w p.2)
  have e2 := lo32_eq (numberF w p.2)
  generalize hi32 (numberF w p.2) = a at *
  generalize lo32 (numberF w p.2) = b at *
  generalize numberF w p.2 = n at *
  generalize (List.map (fun p => hi32 (numberF w p.snd)) Q).sum = x at *
  generalize (List.map (fun p => lo32 (numberF w p.snd)) Q).sum = y at *
  generalize (List.map (fun p => numberF w p.snd) Q).sum = z at *
  omega
end Go.Proofs.YtdioedabjaaboaaGreat.V
namespace Go.Proofs.YtdioedabjaaboaaGreat.V
open Go Go.VL

end Go.Proofs.YtdioedabjaaboaaGreat.V
namespace Go.Proofs.YtdioedabjaaboaaGreat.V
open Go Go.VL

theorem aw_calls (S : Store) (K : PV → Store → Prop) (hK : ∀ S', K (.bool true) S') : PCalls Tryz.prog 9 [] S K := vawake_calls S K fun S2 _ => hK S2
end Go.Proofs.YtdioedabjaaboaaGreat.V
