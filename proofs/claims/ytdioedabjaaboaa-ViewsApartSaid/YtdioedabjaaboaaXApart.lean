/- What a view tells hangs on the map alone, not on which others there are, nor on their order; of lists of at most sixty changes and sixteen thousand bytes, and three other views that are no sums (ViewsApart). -/
import Derived.Test.YtdioedabjaaboaaRows
import Derived.Test.YtdioedabjaaboaaXW
import Derived.Test.YtdioedabjaaboaaXW2
import Derived.WalkKit
import Derived.ProofKit
import Derived.OpenShut
import Derived.ShutString
import Derived.ChangeOld
import Derived.Below
import Derived.SizedLaws
import Derived.Carry
set_option linter.unusedVariables false
namespace Go.Proofs.Ytdioedabjaaboaa.viewsApart
open Go.ChangeShapes Go.WideShapes Go.ChangeAt Go.RowKit Go.VL Go.Proofs.Ytdioedabjaaboaa.V
theorem own : ownKnob Try.prog.godebug = none := by kernel_rfl
theorem laidOut : laidOutB Try.prog = true := by kernel_rfl
set_option maxRecDepth 100000 in
theorem lifted (os : Os) (started : os.Started) (H : Type) (enc : TypeId × Value → H) :
    ReturnsInHanded {} Try.checked os 4 .any (Rows.viewsApartSpec.pre6 enc Try.prog Try.f4 Rows.viewsApartRow.domain false) (Rows.viewsApartSpec.post enc Try.prog Try.f4 false true false false) := by
  refine returnsInHanded_of_change_sized (C := Try.checked) own started (by kernel_rfl) Try.func4
    (ChangeSpec.witness6 (enc := enc) (C := Try.checked) false ⟨#[], #[.slice none 0 0, .agg #[.string ⟨#[]⟩, .int .i64 0, .string ⟨#[]⟩, .string ⟨#[]⟩], .slice none 0 0], []⟩ 8 (by kernel_rfl) (by kernel_rfl) (by kernel_rfl) (by kernel_rfl)) ?_
  intro W base args ds gs before hval0 hW hcnd hsz0 _
  have hval : ∀ (j : Nat) t v, Try.f4.params[j]? = some t → args[j]? = some v → Value.okWide Try.prog W .any base t v := hval0
  have hW' := hW
  obtain ⟨p, q, hA0, hV, rfl, hfz, hnd⟩ := hW
  have hA : DataW.TrodAll enc Try.prog W 0 (fun _ => true) true Try.f4.params.toList args.toList ds p := hA0
  rw [Try.params4] at hA hval
  obtain ⟨v0, vs0, d0, ds0, p0, q0, hargs, rfl, rfl, h0, r0⟩ := trodAll_cons hA
  obtain ⟨v1, vs1, d1, ds1, p1, q1, rfl, rfl, rfl, h1, r1⟩ := trodAll_cons r0
  obtain ⟨v2, vs2, d2, ds2, p2, q2, rfl, rfl, rfl, h2, r2⟩ := trodAll_cons r1
  obtain ⟨rfl, rfl, rfl⟩ := trodAll_nil r2
  obtain rfl : args = #[v0, v1, v2] := by cases args; simp_all
  obtain ⟨rfl, rfl⟩ := trodVars_none hV
  have k0 := h0
  have lt0 : ∀ x ∈ p0, x.block < W.heap.size := by obtain ⟨m, hm⟩ := k0; exact DataW.trod_lt m _ _ _ hm
  obtain ⟨a0, rel0, bare0, wt0⟩ := arg_rel (C := C) (g := gh0 W) gh0_frozen plain22 (hval 0 22 v0 rfl rfl) h0 (fun y hy => of_decide_eq_true (List.all_eq_true.1 hsz0 y (weightsEach_mem (j := 0) rfl rfl hy)))
  obtain ⟨x0, rfl, hf0⟩ := dosZ_of wt0
  have k1 := h1
  have lt1 : ∀ x ∈ p1, x.block < W.heap.size := by obtain ⟨m, hm⟩ := k1; exact DataW.trod_lt m _ _ _ hm
  obtain ⟨a1, rel1, bare1, wt1⟩ := arg_rel (C := C) (g := gh0 W) gh0_frozen plain24 (hval 1 24 v1 rfl rfl) h1 (fun y hy => of_decide_eq_true (List.all_eq_true.1 hsz0 y (weightsEach_mem (j := 1) rfl rfl hy)))
  obtain ⟨x1, rfl⟩ := viewA_of wt1
  have k2 := h2
  have lt2 : ∀ x ∈ p2, x.block < W.heap.size := by obtain ⟨m, hm⟩ := k2; exact DataW.trod_lt m _ _ _ hm
  obtain ⟨a2, rel2, bare2, wt2⟩ := arg_rel (C := C) (g := gh0 W) gh0_frozen plain46 (hval 2 46 v2 rfl rfl) h2 (fun y hy => of_decide_eq_true (List.all_eq_true.1 hsz0 y (weightsEach_mem (j := 2) rfl rfl hy)))
  obtain ⟨x2, rfl⟩ := viewsA_of wt2
  refine (law_true (apart_law x0 x1 x2 hf0 (fun _ => none) (fun v _ => v = .bool true) (fun _ => rfl)) (rargs := #[v0, v1, v2]) (W := W) rfl (fun k pv u hk hu => ?_)).mono fun e W' ⟨he, bel⟩ => ?_
  · rcases k with _ | _ | _ | k
    · simp at hk hu; subst hk; subst hu; exact ⟨rel0, bare0⟩
    · simp at hk hu; subst hk; subst hu; exact ⟨rel1, bare1⟩
    · simp at hk hu; subst hk; subst hu; exact ⟨rel2, bare2⟩
    · simp at hk
  subst he
  exact ⟨_, rfl, _, _, _, [], _, [], hW', trodAll_mk1 (shut_bool Try.underlying4 _), (trodAll_cons_mk (Below.trod laidOut (by kernel_rfl) (of_decide_eq_true (by kernel_rfl)) k0 bel lt0) (trodAll_cons_mk (Below.trod laidOut (by kernel_rfl) (of_decide_eq_true (by kernel_rfl)) k1 bel lt1) (trodAll_cons_mk (Below.trod laidOut (by kernel_rfl) (of_decide_eq_true (by kernel_rfl)) k2 bel lt2) trodAll_mk0))), rfl, bel.frame _, fun h => by cases h⟩
theorem over : Rows.viewsApartRow.holds Try.pinned (OpenSpec.ofChange Rows.viewsApartSpec) :=
  OpenClaim.holds_of_wide 4 Try.f4 rfl rfl rfl rfl rfl rfl rfl ⟨rfl, rfl, rfl, rfl, rfl⟩ rfl rfl rfl rfl rfl (by kernel_rfl) Try.func4 (by kernel_rfl)
    (of_decide_eq_true (by kernel_rfl)) (by unfold Func.isWrapper; first | (rw [if_pos (by decide +kernel)]; kernel_rfl) | (rw [if_neg (by decide +kernel)]; exact ⟨rfl, rfl⟩))
    (fun os started H enc _ => lifted os started H enc)
theorem proved : Rows.ViewsApartSaid := over
#print axioms proved
end Go.Proofs.Ytdioedabjaaboaa.viewsApart
namespace Go.Proofs.Ytdioedabjaaboaa
theorem viewsApart_holds : Rows.ViewsApartSaid := viewsApart.proved
end Go.Proofs.Ytdioedabjaaboaa
