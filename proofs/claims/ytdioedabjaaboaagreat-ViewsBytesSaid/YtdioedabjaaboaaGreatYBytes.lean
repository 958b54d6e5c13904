/- Of any view and at most sixteen thousand bytes: the view is put as the document says; what was put is read again; and what any bytes are, both say alike (ViewsBytes). -/
import Derived.Test.YtdioedabjaaboaaGreatRows
import Derived.Test.YtdioedabjaaboaaGreatZW
import Derived.Test.YtdioedabjaaboaaGreatZI
import Derived.WalkKit
import Derived.ProofKit
import Derived.OpenShut
import Derived.ShutString
import Derived.ChangeOld
import Derived.Below
import Derived.SizedLaws
import Derived.Carry
set_option linter.unusedVariables false
namespace Go.Proofs.YtdioedabjaaboaaGreat.viewsBytes
open Go.ChangeShapes Go.WideShapes Go.ChangeAt Go.RowKit Go.VL Go.Proofs.YtdioedabjaaboaaGreat.V
theorem own : ownKnob Tryz.prog.godebug = none := by kernel_rfl
theorem laidOut : laidOutB Tryz.prog = true := by kernel_rfl
set_option maxRecDepth 100000 in
theorem lifted (os : Os) (started : os.Started) (H : Type) (enc : TypeId × Value → H) :
  ReturnsInHanded {} Tryz.checked os 8 .any (Rows.viewsBytesSpec.pre6 enc Tryz.prog Tryz.f8 Rows.viewsBytesRow.domain false) (Rows.viewsBytesSpec.post enc Tryz.prog Tryz.f8 false true false false) := by
 refine returnsInHanded_of_change_sized (C := Tryz.checked) own started (by kernel_rfl) Tryz.func8
  (ChangeSpec.witness6 (enc := enc) (C := Tryz.checked) false ⟨#[], #[.agg #[.string ⟨#[]⟩, .int .i64 0, .string ⟨#[]⟩, .string ⟨#[]⟩], .slice none 0 0], []⟩ 8 (by kernel_rfl) (by kernel_rfl) (by kernel_rfl) (by kernel_rfl)) ?_
 intro W base args ds gs before hval0 hW hcnd hsz0 _
 have hval : ∀ (j : Nat) t v, Tryz.f8.params[j]? = some t → args[j]? = some v → Value.okWide Tryz.prog W .any base t v := hval0
 have hW' := hW
 obtain ⟨p, q, hA0, hV, rfl, hfz, hnd⟩ := hW
 have hA : DataW.TrodAll enc Tryz.prog W 0 (fun _ => true) true Tryz.f8.params.toList args.toList ds p := hA0
 rw [Tryz.params8] at hA hval
 obtain ⟨v0, vs0, d0, ds0, p0, q0, hargs, rfl, rfl, h0, r0⟩ := trodAll_cons hA
 obtain ⟨v1, vs1, d1, ds1, p1, q1, rfl, rfl, rfl, h1, r1⟩ := trodAll_cons r0
 obtain ⟨rfl, rfl, rfl⟩ := trodAll_nil r1
 obtain rfl : args = #[v0, v1] := by cases args; simp_all
 obtain ⟨rfl, rfl⟩ := trodVars_none hV
 have k0 := h0
 have lt0 : ∀ x ∈ p0, x.block < W.heap.size := by obtain ⟨m, hm⟩ := k0; exact DataW.trod_lt m _ _ _ hm
 obtain ⟨a0, rel0, bare0, wt0⟩ := arg_rel (C := C) (g := gh0 W) gh0_frozen plain34 (hval 0 34 v0 rfl rfl) h0 (fun y hy => of_decide_eq_true (List.all_eq_true.1 hsz0 y (weightsEach_mem (j := 0) rfl rfl hy)))
 obtain ⟨x0, rfl, hf0⟩ := viewK_of wt0
 have k1 := h1
 have lt1 : ∀ x ∈ p1, x.block < W.heap.size := by obtain ⟨m, hm⟩ := k1; exact DataW.trod_lt m _ _ _ hm
 obtain ⟨a1, rel1, bare1, wt1⟩ := arg_rel (C := C) (g := gh0 W) gh0_frozen plain28 (hval 1 28 v1 rfl rfl) h1 (fun y hy => of_decide_eq_true (List.all_eq_true.1 hsz0 y (weightsEach_mem (j := 1) rfl rfl hy)))
 obtain ⟨x1, rfl, hf1⟩ := bytesA_of wt1
 refine (law_true (vbytes_law x0 hf0.1 hf0.2 x1 (fun _ => none) (fun v _ => v = .bool true) (fun _ => rfl)) (rargs := #[v0, v1]) (W := W) rfl (fun k pv u hk hu => ?_)).mono fun e W' ⟨he, bel⟩ => ?_
 ·rcases k with _ | _ | k
  ·simp at hk hu; subst hk; subst hu; exact ⟨rel0, bare0⟩
  ·simp at hk hu; subst hk; subst hu; exact ⟨rel1, bare1⟩
  ·simp at hk
 subst he
 exact ⟨_, rfl, _, _, _, [], _, [], hW', trodAll_mk1 (shut_bool Tryz.underlying4 _), (trodAll_cons_mk (Below.trod laidOut (by kernel_rfl) (of_decide_eq_true (by kernel_rfl)) k0 bel lt0) (trodAll_cons_mk (Below.trod laidOut (by kernel_rfl) (of_decide_eq_true (by kernel_rfl)) k1 bel lt1) trodAll_mk0)), rfl, bel.frame _, fun h => by cases h⟩
theorem over : Rows.viewsBytesRow.holds Tryz.pinned (OpenSpec.ofChange Rows.viewsBytesSpec) :=
 OpenClaim.holds_of_wide 8 Tryz.f8 rfl rfl rfl rfl rfl rfl rfl ⟨rfl, rfl, rfl, rfl, rfl⟩ rfl rfl rfl rfl rfl (by kernel_rfl) Tryz.func8 (by kernel_rfl)
  (of_decide_eq_true (by kernel_rfl)) (by unfold Func.isWrapper; first | (rw [if_pos (by decide +kernel)]; kernel_rfl) | (rw [if_neg (by decide +kernel)]; exact ⟨rfl, rfl⟩))
  (fun os started H enc _ => lifted os started H enc)
theorem proved : Rows.ViewsBytesSaid := over
#print axioms proved
end Go.Proofs.YtdioedabjaaboaaGreat.viewsBytes
namespace Go.Proofs.YtdioedabjaaboaaGreat
theorem viewsBytes_holds : Rows.ViewsBytesSaid := viewsBytes.proved
end Go.Proofs.YtdioedabjaaboaaGreat
