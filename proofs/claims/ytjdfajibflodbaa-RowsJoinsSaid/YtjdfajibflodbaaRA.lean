/- Rows: what may be. -/
import Derived.Test.YtjdfajibflodbaaVLG
set_option linter.unusedVariables false
set_option linter.unusedSimpArgs false
namespace Go.Proofs.Ytjdfajibflodbaa.V
open Go Go.VL

structure Ent where
  i : Int
  t : Int
  d : List Int
  deriving DecidableEq

def encD (d : List Int) : List (List PV) := d.map fun b => [.int .u8 b]
def encE (e : Ent) : List PV := [.int .i64 e.i, .int .i64 e.t, .sl .no 1 (encD e.d)]
def encL (l : List Ent) : List (List PV) := l.map encE
structure Lg where
  i : Int
  t : Int
  rows : List Ent
  deriving DecidableEq
def encG (l : Lg) : PV := .agg [.int .i64 l.i, .int .i64 l.t, .sl .no 3 (encL l.rows)]

@[go_sem] theorem len_encL (l : List Ent) : (encL l).length = l.length := by simp [encL]
@[go_sem] theorem len_encD (l : List Int) : (encD l).length = l.length := by simp [encD]

@[go_sem] theorem encL_drop (k : Nat) (l : List Ent) : List.drop k (encL l) = encL (l.drop k) := by simp [encL, List.map_drop]
@[go_sem] theorem encL_take (k : Nat) (l : List Ent) : List.take k (encL l) = encL (l.take k) := by simp [encL, List.map_take]

def within (n lo : Int) : Bool := decide (lo ≤ n) && decide (n ≤ 1099511627776)

theorem within_spec (n lo : Int) (S : Store) : PRet Try.prog 40 [.int .i64 n, .int .i64 lo] S (.bool (within n lo)) := by
  intro K hK
  refine pcalls_of (C := C) (fun _ => false) (fun _ => false) Try.func40 rfl rfl (by simp [Try.f40]) ?_
  unfold within at hK
  cases h1 : decide (lo ≤ n) <;> rw [h1] at hK <;> (simp -implicitDefEqProofs only [go_sem, ↓reduceIte, Nat.reduceEqDiff, Nat.reduceLT, Nat.reduceLeDiff, Nat.reduceAdd, Nat.reduceMul, Nat.reduceSub, reduceCtorEq, Nat.reduceMod, Nat.reduceBEq, Int.reduceBEq, Int.reduceBNe, Int.reduceToNat, Try.f40, h1]; exact ⟨S, fun _ _ h => h, hK⟩)
theorem wrap64 {x : Int} (h1 : -9223372036854775808 ≤ x) (h2 : x ≤ 9223372036854775807) : IntKind.i64.wrap x = x := by
  rw [IntKind.wrap_i64]; omega
theorem within_iff {n lo : Int} : within n lo = true ↔ lo ≤ n ∧ n ≤ 1099511627776 := by simp [within]
end Go.Proofs.Ytjdfajibflodbaa.V
