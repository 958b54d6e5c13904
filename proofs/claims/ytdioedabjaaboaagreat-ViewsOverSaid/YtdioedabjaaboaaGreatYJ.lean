/- Views: what a view tells of a map; the law of it. -/
import Derived.Test.YtdioedabjaaboaaGreatYI
set_option linter.unusedVariables false
set_option linter.unusedSimpArgs false
namespace Go.Proofs.YtdioedabjaaboaaGreat.V
open Go Go.VL

/-- What a view tells, or why not. -/
noncomputable def ofV (w : Wv) (P : List Pr) : List RV × Int := if vcheck w = 0 then (if fitsQ w P = true then (rowsOf w P, 0) else ([], 72)) else ([], vcheck w)
def encOf (r : List RV × Int) : PV := .tup [.sl .no 3 (encRVs r.1), .int .i64 r.2]
theorem ofV_pv (w : Wv) (P : List Pr) : (if vcheck w = 0 then (if fitsQ w P = true then PV.tup [.sl .no 3 (encRVs (rowsOf w P)), .int .i64 0] else .tup [.sl .no 3 [], .int .i64 72]) else .tup [.sl .no 3 [], .int .i64 (vcheck w)]) = encOf (ofV w P) := by
 unfold encOf ofV
 split
 ·split <;> rfl
 ·rfl
theorem rowsOf_len' (w : Wv) (L : List Pr) : (rowsOf w L).length ≤ L.length := by
 unfold rowsOf
 rw [List.length_map, len_sortB]
 exact groups_len w L
theorem rowsOf_keys' (w : Wv) (L : List Pr) : ∀ r ∈ rowsOf w L, r.keys.length ≤ L.length := by
 intro r hr
 unfold rowsOf at hr
 obtain ⟨g, _, rfl⟩ := List.mem_map.1 hr
 unfold rowOf
 dsimp only
 split
 ·rw [len_sortB, List.length_map]; exact List.length_filter_le _ _
 ·exact Nat.zero_le _
theorem ROf_pv (w : Wv) (hw : FitW w) (P : List Pr) (hP : P.length ≤ 1000000) (hf : FitK P) (hn : (P.map Prod.fst).Nodup) (S : Store) :
  PRet Tryz.prog 13 [.agg (encW w), .sl .no 3 (encOs (P.map kOf))] S (encOf (ofV w P)) := by
 rw [← ofV_pv]; exact ROf_spec w hw P hP hf hn S
theorem aw_calls (S : Store) (K : PV → Store → Prop) (hK : ∀ S', K (.bool true) S') : PCalls Tryz.prog 9 [] S K := vawake_calls S K fun S2 _ => hK S2
end Go.Proofs.YtdioedabjaaboaaGreat.V
