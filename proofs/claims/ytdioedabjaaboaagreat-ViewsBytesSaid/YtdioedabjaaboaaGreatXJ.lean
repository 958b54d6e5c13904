/- Views: a map once more: the kit's contract of maps.Clone, laid here; a table once more. -/
import Derived.Test.YtdioedabjaaboaaGreatXI
import Derived.Ground.SlmcProg
import Derived.Shelf.Lay
import Derived.Shelf.SlMaps.Clone
set_option linter.unusedVariables false
set_option linter.unusedSimpArgs false
namespace Go.Proofs
open Go.RowKit Go.Maps Go.Shelf
def Tryz.cloneB_ren : Go.Shelf.Ren := ⟨fun | 5 => 94 | 7 => 112 | n => n, fun | 23 => 132 | 25 => 9 | 3 => 4 | 4 => 4 | 20 => 20 | n => n, fun | n => n⟩
theorem Tryz.cloneB : Go.Proofs.SlLaysW.n5 Tryz.prog Tryz.cloneB_ren where
 mixed := by kernel_rfl
 f5 := ⟨"maps.Clone[map[string]bool,string,bool]", by decide, Tryz.func94.trans (congrArg some (by kernel_rfl))⟩
 f7 := Tryz.func112.trans (congrArg some (by kernel_rfl))
 t4 := Tryz.underlying4
 a4 := Tryz.isAgg4
 z4 := Tryz.sizeOf4
 v4 := Tryz.zeroValue4
 t20 := Tryz.underlying20
 a20 := Tryz.isAgg20
 z20 := Tryz.sizeOf20
 v20 := Tryz.zeroValue20
 t23 := Tryz.underlying132
 a23 := Tryz.isAgg132
 z23 := Tryz.sizeOf132
 v23 := Tryz.zeroValue132

namespace YtdioedabjaaboaaGreat.V
open Go Go.VL

theorem mclone_calls {S : Store} {kid cl : Nat} {st : List (Nat × ByteArray)} {vs : List PV} (hS : S kid = some [.mcon cl st vs]) (K : PV → Store → Prop) (hK : ∀ id, S id = none → K (.mref id) (S.set id (some [.mcon cl st vs]))) :
  PCalls Tryz.prog 94 [.mref kid] S K := by
 refine ⟨⟨_, Tryz.func94, rfl, rfl⟩, fun g w rargs h => ?_⟩
 obtain ⟨e0, rfl⟩ : ∃ v0, rargs = #[v0] := by
  have := h.size
  match rargs, this with
  | ⟨[v0]⟩, _ => exact ⟨v0, rfl⟩
 have h0 := (h.slots 0 (by simp)).rel
 simp only [argEnv, List.getD_cons_zero, Array.getD] at h0
 cases h0
 rename_i hid hk
 obtain ⟨cl', ks', vs', es, e1, hlab, hheap, hes, hlen, hval⟩ := (h.objs kid _ hS).mp hk
 simp only [List.cons.injEq, PV.mcon.injEq, and_true] at e1
 obtain ⟨rfl, rfl, rfl⟩ := e1
 refine (AnyW.maps_Clone Tryz.cloneB _ es cl w hheap).mono ?_
 rintro e w' ⟨rfl, rfl⟩
 have q := Quiet.moreM h.new (.map es cl)
 have hl : (g.moreM w.heap.size).loc g.nxt = (w.heap.size, 0) := by simp [Gh.moreM]
 have hnone : S g.nxt = none := h.nxtNone
 refine ⟨_, _, _, g.moreM w.heap.size, rfl, hK g.nxt hnone, q.toFr, ⟨?_, by simp [Tail]⟩, ?_, q.new⟩
 ·have := @Rel.mref (g.moreM w.heap.size) (w.alloc (.map es cl)) g.nxt (by simp [Gh.moreM]) (by simp [Gh.moreM])
  rw [hl] at this
  exact this
 ·intro id cells hi
  simp only [Store.set] at hi
  split at hi
  ·rename_i heq
   subst heq
   injection hi with hi
   subst hi
   refine ⟨by simp [Gh.moreM], fun hn => by simp [Gh.moreM] at hn, fun _ => ⟨cl, st, vs, es, rfl, fun o => ?_, ?_, hes, hlen, fun i e v he hv => ⟨(hval i e v he hv).1.mono q.toFr, (hval i e v he hv).2⟩⟩⟩
   ·rw [hl]; simp [Gh.moreM]
   ·rw [hl]; exact (MapKept.heap_alloc w _).1
  ·exact (h.objs id cells hi).quiet q
end YtdioedabjaaboaaGreat.V
end Go.Proofs
