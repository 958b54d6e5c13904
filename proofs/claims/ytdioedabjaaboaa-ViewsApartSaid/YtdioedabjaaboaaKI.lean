/- Maps: set; two lists alike; the examples. -/
import Derived.Test.YtdioedabjaaboaaKH
set_option linter.unusedVariables false
set_option linter.unusedSimpArgs false
namespace Go.Proofs.Ytdioedabjaaboaa.V
open Go Go.VL

theorem _root_.Go.VL.PCalls.unflag {P : Program} {f : FuncId} {args : List PV} {S : Store} {K : PV → Store → Prop} (h : PCalls P f (args.map PV.bare) S K) : PCalls P f args S K := by
  have e : ∀ t, argEnv (args.map PV.bare) t = (argEnv args t).bare := fun t => by
    unfold argEnv
    rw [List.getD_eq_getElem?_getD, List.getD_eq_getElem?_getD, List.getElem?_map]
    cases args[t]? <;> rfl
  refine ⟨h.1, fun g w rargs hst => h.2 g w rargs ⟨by rw [List.length_map]; exact hst.size, fun t ht => ?_, fun t ht => ?_, hst.objs, hst.new⟩⟩
  · rw [e]
    exact (hst.slots t (by rwa [List.length_map] at ht)).bare
  · rw [e, hst.beyond t (by rwa [List.length_map] at ht)]
    rfl

/-! ### the examples -/
theorem ltd (a b : ByteArray) : lt a b = Op.bytesLess a.data.toList b.data.toList := by unfold lt; rw [ByteArray.toList_eq, ByteArray.toList_eq]
abbrev bA : ByteArray := ⟨#[97]⟩
abbrev bB : ByteArray := ⟨#[98]⟩
abbrev b1 : ByteArray := ⟨#[49]⟩
abbrev b2 : ByteArray := ⟨#[50]⟩
abbrev b3 : ByteArray := ⟨#[51]⟩
theorem lt_ab : lt bA bB = true := by rw [ltd]; rfl
theorem lt_ba : lt bB bA = false := by rw [ltd]; rfl
theorem same_ab : same bA bB = false := same_lt lt_ab
theorem same_ba : same bB bA = false := same_gt lt_ab
theorem same_n1 : same ⟨#[]⟩ b1 = false := same_lt (by rw [ltd]; rfl)
theorem same_n2 : same ⟨#[]⟩ b2 = false := same_lt (by rw [ltd]; rfl)
theorem same_n3 : same ⟨#[]⟩ b3 = false := same_lt (by rw [ltd]; rfl)
theorem one_rune (c : UInt8) (h : Utf8.decode ⟨#[c]⟩ 0 = (c.toNat, 1)) : runes ⟨#[c]⟩ 0 = [c.toNat] := by
  rw [runes_lt (show 0 < 1 by decide), h, runes_ge (show ¬ 0 + 1 < 1 by decide)]
theorem key1 : keyQ bA = true := by unfold keyQ; rw [one_rune 97 (by rfl)]; decide
theorem key2 : keyQ bB = true := by unfold keyQ; rw [one_rune 98 (by rfl)]; decide
theorem val1 : valQ b1 = true := by unfold valQ; rw [one_rune 49 (by rfl)]; decide
theorem val2 : valQ b2 = true := by unfold valQ; rw [one_rune 50 (by rfl)]; decide
theorem val3 : valQ b3 = true := by unfold valQ; rw [one_rune 51 (by rfl)]; decide
theorem plan1 : planF [] 5 [] [⟨bA, true, b1⟩] = ([⟨5, bA, false, ⟨#[]⟩, true, b1⟩], 0) := by
  simp [planF, checkF, rightF, badV, seenQ, key1, val1, planN, delta, condQ, hasQ, getQ, look, planE, evOf]
theorem do1 : doF [] 5 [] [⟨bA, true, b1⟩] = [(bA, b1)] := by
  simp [doF, plan1, takeF, evDo, putL, below, above]
theorem plan2 : planF [(bA, b1)] 6 [⟨bA, true, b1⟩] [⟨bA, false, ⟨#[]⟩⟩, ⟨bB, true, b2⟩] = ([⟨6, bA, true, b1, false, ⟨#[]⟩⟩, ⟨6, bB, false, ⟨#[]⟩, true, b2⟩], 0) := by
  simp [planF, checkF, rightF, badV, seenQ, key1, key2, val1, val2, planN, delta, condQ, hasQ, getQ, look, planE, evOf, same_refl, same_ab, same_n2]
theorem do2 : doF [(bA, b1)] 6 [⟨bA, true, b1⟩] [⟨bA, false, ⟨#[]⟩⟩, ⟨bB, true, b2⟩] = [(bB, b2)] := by
  simp [doF, plan2, takeF, evDo, putL, dropL, below, above, same_refl]
theorem plan3 : planF [(bB, b2)] 7 [⟨bA, true, b1⟩] [⟨bB, true, b3⟩] = ([], 60) := by
  simp [planF, checkF, rightF, badV, seenQ, key1, key2, val1, val3, condQ, hasQ, getQ, look, same_ba]
theorem do3 : doF [(bB, b2)] 7 [⟨bA, true, b1⟩] [⟨bB, true, b3⟩] = [(bB, b2)] := by
  simp [doF, plan3]
theorem encO_put (k v : ByteArray) : [[PV.str k, .bool true, .str v]] = encOs [⟨k, true, v⟩] := rfl
theorem getB : look bB [(bB, b2)] = some b2 := by simp [look, same_refl]

end Go.Proofs.Ytdioedabjaaboaa.V
