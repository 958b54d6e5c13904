/- Trees: what leads from any tree to another. -/
import Derived.Test.YtmedhhjbknnfkaaTO
set_option linter.unusedVariables false
set_option linter.unusedSimpArgs false
namespace Go.Proofs.Ytmedhhjbknnfkaa.V
open Go Go.VL

theorem two_len (k : ByteArray) : ∀ (B : List Pr), (below k B).length + (above k B).length ≤ B.length
  | [] => Nat.le_refl _
  | p :: B => by
    have := two_len k B
    rw [below_cons, above_cons]
    cases h1 : lt p.1 k
    · cases h2 : lt k p.1 <;> simp <;> omega
    · rw [lt_asym h1]
      simp
      omega
theorem evMid_len (k v : ByteArray) (o : Option ByteArray) : (evMid k v o).length ≤ 1 := by
  cases o with
  | none => exact Nat.le_refl _
  | some w => unfold evMid; dsimp only; split <;> simp
theorem evL_len : ∀ (A B : List Pr), (evL A B).length ≤ A.length + B.length
  | [], B => by simp [evL]
  | p :: A, B => by
    have h1 := evL_len A (above p.1 B)
    have h2 := two_len p.1 B
    have h3 := evMid_len p.1 p.2 (look p.1 B)
    rw [evL]
    simp only [List.length_append, List.length_map, List.length_cons]
    omega

set_option maxHeartbeats 2000000 in
theorem diff_spec : ∀ (a b : T) (out : List Ev), Sorted a.list → Ok b → Sorted b.list → b.list.length ≤ 1000000 → out.length + a.list.length + b.list.length ≤ 4000000 → ∀ S,
    PRet Try.prog 62 [enc a, enc b, .sl .tail 6 (encEvs out)] S (.sl .tail 6 (encEvs (out ++ evL a.list b.list)))
  | .nil, b, out, _, _, _, _, hs, S => diff_nil b out (by simp only [T.list, List.length_nil] at hs; omega) S
  | .node k v l r d s, b, out, hsa, hob, hsb, hnb, hs, S => by
    intro K hK
    have hsa0 := hsa
    simp only [T.list] at hsa hK
    simp only [T.list, List.length_append, List.length_cons] at hs
    obtain ⟨sl, sr, sA, sB⟩ := sorted_mid hsa
    obtain ⟨x, y, c, ox, oy, lx, ly, hat, _, hsp⟩ := split_spec k b hob hsb hnb
    have htw := two_len k b.list
    have ih1 := diff_spec l x out sl ox (by rw [lx]; exact sorted_below hsb k) (by rw [lx]; omega) (by rw [lx]; omega)
    have hl1 := evL_len l.list x.list
    have ih2 : ∀ o2 : List Ev, o2.length ≤ (out ++ evL l.list x.list).length + 1 → ∀ S, PRet Try.prog 62 [enc r, enc y, .sl .tail 6 (encEvs o2)] S (.sl .tail 6 (encEvs (o2 ++ evL r.list y.list))) := fun o2 h2 => by
      rw [List.length_append] at h2
      rw [lx] at hl1
      rw [lx] at h2
      exact diff_spec r y o2 sr oy (by rw [ly]; exact sorted_above hsb k) (by rw [ly]; omega) (by rw [ly]; omega)
    have hkk : b = .node k v l r d s → evL (l.list ++ (k, v) :: r.list) b.list = [] := fun h => by rw [h]; exact evL_self _ hsa
    have hev := evL_mid k v r.list l.list b.list sA
    rw [← lx, ← ly] at hev
    have hap := small72 (k := (out ++ evL l.list x.list).length + 1) (by rw [lx] at *; simp only [List.length_append]; omega)
    unfold At at hat
    generalize look k b.list = lk at hat hev
    refine pcalls_of (C := C) (fun d => d == 14 || d == 6 || d == 26 || d == 27 || d == 2 || d == 28 || d == 46 || d == 47 || d == 64 || d == 65 || d == 69 || d == 95 || d == 119 || d == 120) (fun _ => false) Try.func62 rfl rfl (by simp [Try.f62]) ?_
    cases b with
    | nil =>
      simp -implicitDefEqProofs only [go_sem, ↓reduceIte, Nat.reduceEqDiff, Nat.reduceLT, Nat.reduceLeDiff, Nat.reduceAdd, Nat.reduceMul, Nat.reduceSub, reduceCtorEq, Nat.reduceMod, Nat.reduceBEq, Int.reduceBEq, Int.reduceBNe, Int.reduceToNat, Try.f62, enc_node, enc_nil]
      refine hsp _ _ ?_
      simp -implicitDefEqProofs only [go_sem, ↓reduceIte, Nat.reduceEqDiff, Nat.reduceLT, Nat.reduceLeDiff, Nat.reduceAdd, Nat.reduceMul, Nat.reduceSub, reduceCtorEq, Nat.reduceMod, Nat.reduceBEq, Int.reduceBEq, Int.reduceBNe, Int.reduceToNat]
      refine ⟨by decide, ih1 _ _ ?_⟩
      simp -implicitDefEqProofs only [go_sem, ↓reduceIte, Nat.reduceEqDiff, Nat.reduceLT, Nat.reduceLeDiff, Nat.reduceAdd, Nat.reduceMul, Nat.reduceSub, reduceCtorEq, Nat.reduceMod, Nat.reduceBEq, Int.reduceBEq, Int.reduceBNe, Int.reduceToNat]
      cases lk with
      | none =>
        dsimp only at hat
        subst hat
        rw [hev] at hK
        simp -implicitDefEqProofs only [go_sem, ↓reduceIte, Nat.reduceEqDiff, Nat.reduceLT, Nat.reduceLeDiff, Nat.reduceAdd, Nat.reduceMul, Nat.reduceSub, reduceCtorEq, Nat.reduceMod, Nat.reduceBEq, Int.reduceBEq, Int.reduceBNe, Int.reduceToNat, enc_nil]
        refine vwp_draw (by decide +kernel) ?_
        simp -implicitDefEqProofs only [go_sem, ↓reduceIte, Nat.reduceEqDiff, Nat.reduceLT, Nat.reduceLeDiff, Nat.reduceAdd, Nat.reduceMul, Nat.reduceSub, reduceCtorEq, Nat.reduceMod, Nat.reduceBEq, Int.reduceBEq, Int.reduceBNe, Int.reduceToNat, hap]
        rw [encEvs_one]
        refine ⟨by decide, ih2 _ (by simp only [List.length_append, List.length_cons, List.length_nil]; omega) _ _ ?_⟩
        simp -implicitDefEqProofs only [go_sem, ↓reduceIte, Nat.reduceEqDiff, Nat.reduceLT, Nat.reduceLeDiff, Nat.reduceAdd, Nat.reduceMul, Nat.reduceSub, reduceCtorEq, Nat.reduceMod, Nat.reduceBEq, Int.reduceBEq, Int.reduceBNe, Int.reduceToNat]
        simp only [evMid, List.append_assoc] at hK ⊢
        exact ⟨S, fun _ _ h => h, hK⟩
      | some w =>
        obtain ⟨cl, cr, cd, cs, rfl⟩ := hat
        rw [hev] at hK
        simp -implicitDefEqProofs only [go_sem, ↓reduceIte, Nat.reduceEqDiff, Nat.reduceLT, Nat.reduceLeDiff, Nat.reduceAdd, Nat.reduceMul, Nat.reduceSub, reduceCtorEq, Nat.reduceMod, Nat.reduceBEq, Int.reduceBEq, Int.reduceBNe, Int.reduceToNat, enc_node]
        refine vwp_draw (by decide +kernel) ?_
        cases cw : same w v
        · simp -implicitDefEqProofs only [go_sem, ↓reduceIte, Nat.reduceEqDiff, Nat.reduceLT, Nat.reduceLeDiff, Nat.reduceAdd, Nat.reduceMul, Nat.reduceSub, reduceCtorEq, Nat.reduceMod, Nat.reduceBEq, Int.reduceBEq, Int.reduceBNe, Int.reduceToNat, cw]
          refine vwp_draw (by decide +kernel) ?_
          simp -implicitDefEqProofs only [go_sem, ↓reduceIte, Nat.reduceEqDiff, Nat.reduceLT, Nat.reduceLeDiff, Nat.reduceAdd, Nat.reduceMul, Nat.reduceSub, reduceCtorEq, Nat.reduceMod, Nat.reduceBEq, Int.reduceBEq, Int.reduceBNe, Int.reduceToNat, hap]
          rw [encEvs_one]
          refine ⟨by decide, ih2 _ (by simp only [List.length_append, List.length_cons, List.length_nil]; omega) _ _ ?_⟩
          simp -implicitDefEqProofs only [go_sem, ↓reduceIte, Nat.reduceEqDiff, Nat.reduceLT, Nat.reduceLeDiff, Nat.reduceAdd, Nat.reduceMul, Nat.reduceSub, reduceCtorEq, Nat.reduceMod, Nat.reduceBEq, Int.reduceBEq, Int.reduceBNe, Int.reduceToNat]
          simp only [evMid, cw, Bool.false_eq_true, if_false, List.append_assoc] at hK ⊢
          exact ⟨S, fun _ _ h => h, hK⟩
        · simp -implicitDefEqProofs only [go_sem, ↓reduceIte, Nat.reduceEqDiff, Nat.reduceLT, Nat.reduceLeDiff, Nat.reduceAdd, Nat.reduceMul, Nat.reduceSub, reduceCtorEq, Nat.reduceMod, Nat.reduceBEq, Int.reduceBEq, Int.reduceBNe, Int.reduceToNat, cw]
          refine ⟨by decide, ih2 _ (by simp only [List.length_append, List.length_cons, List.length_nil]; omega) _ _ ?_⟩
          simp -implicitDefEqProofs only [go_sem, ↓reduceIte, Nat.reduceEqDiff, Nat.reduceLT, Nat.reduceLeDiff, Nat.reduceAdd, Nat.reduceMul, Nat.reduceSub, reduceCtorEq, Nat.reduceMod, Nat.reduceBEq, Int.reduceBEq, Int.reduceBNe, Int.reduceToNat]
          simp only [evMid, cw, if_true, List.append_assoc, List.nil_append] at hK ⊢
          exact ⟨S, fun _ _ h => h, hK⟩
    | node bk bv bl br bd bs =>
      simp -implicitDefEqProofs only [go_sem, ↓reduceIte, Nat.reduceEqDiff, Nat.reduceLT, Nat.reduceLeDiff, Nat.reduceAdd, Nat.reduceMul, Nat.reduceSub, reduceCtorEq, Nat.reduceMod, Nat.reduceBEq, Int.reduceBEq, Int.reduceBNe, Int.reduceToNat, Try.f62, enc_node]
      intro bb hbb
      cases bb
      · simp -implicitDefEqProofs only [go_sem, ↓reduceIte, Nat.reduceEqDiff, Nat.reduceLT, Nat.reduceLeDiff, Nat.reduceAdd, Nat.reduceMul, Nat.reduceSub, reduceCtorEq, Nat.reduceMod, Nat.reduceBEq, Int.reduceBEq, Int.reduceBNe, Int.reduceToNat]
        refine hsp _ _ ?_
        simp -implicitDefEqProofs only [go_sem, ↓reduceIte, Nat.reduceEqDiff, Nat.reduceLT, Nat.reduceLeDiff, Nat.reduceAdd, Nat.reduceMul, Nat.reduceSub, reduceCtorEq, Nat.reduceMod, Nat.reduceBEq, Int.reduceBEq, Int.reduceBNe, Int.reduceToNat]
        refine ⟨by decide, ih1 _ _ ?_⟩
        simp -implicitDefEqProofs only [go_sem, ↓reduceIte, Nat.reduceEqDiff, Nat.reduceLT, Nat.reduceLeDiff, Nat.reduceAdd, Nat.reduceMul, Nat.reduceSub, reduceCtorEq, Nat.reduceMod, Nat.reduceBEq, Int.reduceBEq, Int.reduceBNe, Int.reduceToNat]
        cases lk with
        | none =>
          dsimp only at hat
          subst hat
          rw [hev] at hK
          simp -implicitDefEqProofs only [go_sem, ↓reduceIte, Nat.reduceEqDiff, Nat.reduceLT, Nat.reduceLeDiff, Nat.reduceAdd, Nat.reduceMul, Nat.reduceSub, reduceCtorEq, Nat.reduceMod, Nat.reduceBEq, Int.reduceBEq, Int.reduceBNe, Int.reduceToNat, enc_nil]
          refine vwp_draw (by decide +kernel) ?_
          simp -implicitDefEqProofs only [go_sem, ↓reduceIte, Nat.reduceEqDiff, Nat.reduceLT, Nat.reduceLeDiff, Nat.reduceAdd, Nat.reduceMul, Nat.reduceSub, reduceCtorEq, Nat.reduceMod, Nat.reduceBEq, Int.reduceBEq, Int.reduceBNe, Int.reduceToNat, hap]
          rw [encEvs_one]
          refine ⟨by decide, ih2 _ (by simp only [List.length_append, List.length_cons, List.length_nil]; omega) _ _ ?_⟩
          simp -implicitDefEqProofs only [go_sem, ↓reduceIte, Nat.reduceEqDiff, Nat.reduceLT, Nat.reduceLeDiff, Nat.reduceAdd, Nat.reduceMul, Nat.reduceSub, reduceCtorEq, Nat.reduceMod, Nat.reduceBEq, Int.reduceBEq, Int.reduceBNe, Int.reduceToNat]
          simp only [evMid, List.append_assoc] at hK ⊢
          exact ⟨S, fun _ _ h => h, hK⟩
        | some w =>
          obtain ⟨cl, cr, cd, cs, rfl⟩ := hat
          rw [hev] at hK
          simp -implicitDefEqProofs only [go_sem, ↓reduceIte, Nat.reduceEqDiff, Nat.reduceLT, Nat.reduceLeDiff, Nat.reduceAdd, Nat.reduceMul, Nat.reduceSub, reduceCtorEq, Nat.reduceMod, Nat.reduceBEq, Int.reduceBEq, Int.reduceBNe, Int.reduceToNat, enc_node]
          refine vwp_draw (by decide +kernel) ?_
          cases cw : same w v
          · simp -implicitDefEqProofs only [go_sem, ↓reduceIte, Nat.reduceEqDiff, Nat.reduceLT, Nat.reduceLeDiff, Nat.reduceAdd, Nat.reduceMul, Nat.reduceSub, reduceCtorEq, Nat.reduceMod, Nat.reduceBEq, Int.reduceBEq, Int.reduceBNe, Int.reduceToNat, cw]
            refine vwp_draw (by decide +kernel) ?_
            simp -implicitDefEqProofs only [go_sem, ↓reduceIte, Nat.reduceEqDiff, Nat.reduceLT, Nat.reduceLeDiff, Nat.reduceAdd, Nat.reduceMul, Nat.reduceSub, reduceCtorEq, Nat.reduceMod, Nat.reduceBEq, Int.reduceBEq, Int.reduceBNe, Int.reduceToNat, hap]
            rw [encEvs_one]
            refine ⟨by decide, ih2 _ (by simp only [List.length_append, List.length_cons, List.length_nil]; omega) _ _ ?_⟩
            simp -implicitDefEqProofs only [go_sem, ↓reduceIte, Nat.reduceEqDiff, Nat.reduceLT, Nat.reduceLeDiff, Nat.reduceAdd, Nat.reduceMul, Nat.reduceSub, reduceCtorEq, Nat.reduceMod, Nat.reduceBEq, Int.reduceBEq, Int.reduceBNe, Int.reduceToNat]
            simp only [evMid, cw, Bool.false_eq_true, if_false, List.append_assoc] at hK ⊢
            exact ⟨S, fun _ _ h => h, hK⟩
          · simp -implicitDefEqProofs only [go_sem, ↓reduceIte, Nat.reduceEqDiff, Nat.reduceLT, Nat.reduceLeDiff, Nat.reduceAdd, Nat.reduceMul, Nat.reduceSub, reduceCtorEq, Nat.reduceMod, Nat.reduceBEq, Int.reduceBEq, Int.reduceBNe, Int.reduceToNat, cw]
            refine ⟨by decide, ih2 _ (by simp only [List.length_append, List.length_cons, List.length_nil]; omega) _ _ ?_⟩
            simp -implicitDefEqProofs only [go_sem, ↓reduceIte, Nat.reduceEqDiff, Nat.reduceLT, Nat.reduceLeDiff, Nat.reduceAdd, Nat.reduceMul, Nat.reduceSub, reduceCtorEq, Nat.reduceMod, Nat.reduceBEq, Int.reduceBEq, Int.reduceBNe, Int.reduceToNat]
            simp only [evMid, cw, if_true, List.append_assoc, List.nil_append] at hK ⊢
            exact ⟨S, fun _ _ h => h, hK⟩
      · have he := alike_eq (.node k v l r d s) (.node bk bv bl br bd bs) (hbb rfl)
        rw [hkk he.symm, List.append_nil] at hK
        exact ⟨S, fun _ _ h => h, hK⟩
end Go.Proofs.Ytmedhhjbknnfkaa.V
