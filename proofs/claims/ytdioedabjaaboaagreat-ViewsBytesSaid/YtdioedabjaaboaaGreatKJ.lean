/- Maps: set; two lists alike; the examples. -/
import Derived.Test.YtdioedabjaaboaaGreatKH
set_option linter.unusedVariables false
set_option linter.unusedSimpArgs false
namespace Go.Proofs.YtdioedabjaaboaaGreat.V
open Go Go.VL

theorem _root_.Go.VL.PCalls.unflag {P : Program} {f : FuncId} {args : List PV} {S : Store} {K : PV → Store → Prop} (h : PCalls P f (args.map PV.bare) S K) : PCalls P f args S K := by
 have e : ∀ t, argEnv (args.map PV.bare) t = (argEnv args t).bare := fun t => by
  unfold argEnv
  rw [List.getD_eq_getElem?_getD, List.getD_eq_getElem?_getD, List.getElem?_map]
  cases args[t]? <;> rfl
 refine ⟨h.1, fun g w rargs hst => h.2 g w rargs ⟨by rw [List.length_map]; exact hst.size, fun t ht => ?_, fun t ht => ?_, hst.objs, hst.new⟩⟩
 ·rw [e]
  exact (hst.slots t (by rwa [List.length_map] at ht)).bare
 ·rw [e, hst.beyond t (by rwa [List.length_map] at ht)]
  rfl

/-! ### the examples -/
theorem ltd (a b : ByteArray) : lt a b = Op.bytesLess a.data.toList b.data.toList := by unfold lt; rw [ByteArray.toList_eq, ByteArray.toList_eq]
abbrev b1 : ByteArray := ⟨#[49]⟩
abbrev b2 : ByteArray := ⟨#[50]⟩
abbrev b3 : ByteArray := ⟨#[51]⟩
end Go.Proofs.YtdioedabjaaboaaGreat.V
namespace Go.Proofs.YtdioedabjaaboaaGreat.V
open Go Go.VL

end Go.Proofs.YtdioedabjaaboaaGreat.V
