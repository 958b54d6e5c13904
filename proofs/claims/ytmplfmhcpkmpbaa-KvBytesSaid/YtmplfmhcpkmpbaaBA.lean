/- Bytes: numbers, texts and flags as bytes. -/
import Derived.Test.YtmplfmhcpkmpbaaKL
set_option linter.unusedVariables false
set_option linter.unusedSimpArgs false
namespace Go.Proofs.Ytmplfmhcpkmpbaa.V
open Go Go.VL

def encB (l : List UInt8) : List (List PV) := l.map fun c => [.int .u8 (c.toNat : Int)]
@[go_sem] theorem len_encB (l : List UInt8) : (encB l).length = l.length := by simp [encB]
theorem getD_encB {l : List UInt8} {k : Nat} {c : UInt8} (h : l[k]? = some c) : (encB l).getD k [] = [.int .u8 (c.toNat : Int)] := by
  simp [encB, List.getD_eq_getElem?_getD, h]
theorem encB_nil : encB [] = [] := rfl
theorem encB_app (a b : List UInt8) : encB a ++ encB b = encB (a ++ b) := by simp [encB]
def digs (n : Nat) : List UInt8 := if h : n = 0 then [] else digs (n / 256) ++ [UInt8.ofNat (n % 256)]
termination_by n
decreasing_by omega
theorem digs_zero : digs 0 = [] := by rw [digs]; simp
theorem digs_pos {n : Nat} (h : n ≠ 0) : digs n = digs (n / 256) ++ [UInt8.ofNat (n % 256)] := by rw [digs]; simp [h]
def numB (n : Nat) : List UInt8 := UInt8.ofNat (digs n).length :: digs n
end Go.Proofs.Ytmplfmhcpkmpbaa.V
